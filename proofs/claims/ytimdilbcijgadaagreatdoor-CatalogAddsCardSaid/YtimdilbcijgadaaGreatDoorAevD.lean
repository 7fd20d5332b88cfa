/- A deep evaluator for the code of the model, and its soundness: part 4. -/
import Derived.Test.YtimdilbcijgadaaGreatDoorAevC
import Derived.Below
import Derived.ChangeShapes
import Derived.ChangeArms
import Derived.Deep.Slices
import Derived.Lib.LaidTab
import Derived.FnData
import Derived.ReadAgain
import Derived.ChangeOld
import Derived.OpenShut
import Derived.WalkKit
import Derived.Deep.DeepHandedRow
import Derived.ProofKit
import Derived.IntWalk
import Derived.Shelf.Strings.BuilderK
import Derived.Shelf.Strings.OnBuilder
import Derived.Shelf.Strings.Prefix
import Derived.Shelf.Strings.Split
import Derived.Shelf.Strings.Replace
import Derived.Shelf.SlicesE.Clone
import Derived.Shelf.Spec.SlicesGrow
set_option linter.unusedVariables false
set_option linter.unusedSimpArgs false
section
/- A function's body, and calls to any depth. -/
namespace Go.Aev

section
variable {C : Cfg} {w0 : World} {M0 : Nat → Nat} {sm0 : List Nat} {X0 : Nat → Bool} {g : Gh} {s : St} {a : Act} {w : World}

def resStep (tmps : Array Value) : ResultVar → Sem Value
  | .tmp t => pure (tmps.getD t undef)
  | .cell a t => do loadVar t (← asAddr (tmps.getD a undef))

theorem results_eq (fn : Func) (tmps : Array Value) : results fn tmps = (do
    let vs ← fn.results.mapM (resStep tmps)
    pure (if h : vs.size = 1 then vs[0] else .tuple vs)) := rfl

theorem loadA_ptr {β : Type} {ns : Bool} {t : TypeId} {p : AVal} {v : Value} {F : Ent → Option β} {r : β} (hp : RepA w g w0.heap.size p v) (h : loadA C ns s.lo s.sg t p F = some r) : ∃ ad, v = .pointer (some ad) := by
  unfold loadA at h
  split at h
  · split at h
    · obtain ⟨b, _, h⟩ := hp.loc_inv; exact ⟨_, h⟩
    · obtain ⟨a, vs, h, _⟩ := hp.imm_inv; exact ⟨_, h⟩
    · obtain ⟨b, _, h⟩ := hp.ref_inv; exact ⟨_, h⟩
    · cases h
  · cases h

theorem resultsA_run (hI : Inv C w0 M0 sm0 X0 g s a w) : ∀ {l : List ResultVar} {K : List Ent → Option (List Ent × Sig)} {r : List Ent × Sig}, resultsA C s l K = some r →
    ∃ es vs, K es = some r ∧ (l.mapM (resStep a.tmps)).run C.P w = .ok vs w ∧ es.length = vs.length ∧ ∀ (i : Nat) e u, es[i]? = some e → vs[i]? = some u → RepE w g w0.heap.size e u
  | [], K, r, h => ⟨[], [], h, by simp, rfl, fun i e u he => by simp at he⟩
  | .tmp t :: l, K, r, h => by
    simp only [resultsA] at h
    obtain ⟨es, vs, h1, h2, h3, h4⟩ := resultsA_run hI h
    refine ⟨_, a.tmps.getD t undef :: vs, h1, ?_, by simp [h3], fun i e u he hu => ?_⟩
    · simp only [List.mapM_cons, resStep, Sem.run_bind, Sem.run_pure, Result.andThen_ok, h2]
    · cases i with
      | zero => simp only [List.getElem?_cons_zero, Option.some.injEq] at he hu; subst he hu; exact hI.ev (.tmp t)
      | succ i => exact h4 i e u (by simpa using he) (by simpa using hu)
  | .cell t ty :: l, K, r, h => by
    simp only [resultsA] at h
    have hr := (hI.ev (.tmp t)).1
    obtain ⟨ad, hv⟩ := loadA_ptr (C := C) (s := s) hr h
    obtain ⟨e0, u0, h5, h6, h7⟩ := load_run hI hr h
    obtain ⟨es, vs, h1, h2, h3, h4⟩ := resultsA_run hI h5
    have hv' : a.tmps.getD t undef = .pointer (some ad) := hv
    rw [hv] at h6
    have h8 : (loadVar ty ad).run C.P w = .ok u0 w := by
      simpa [Instr.loadAt, Instr.sureAddr] using h6
    refine ⟨_, u0 :: vs, h1, ?_, by simp [h3], fun i e u he hu => ?_⟩
    · simp only [List.mapM_cons, resStep, hv', asAddr, Sem.run_bind, Sem.run_pure, Result.andThen_ok, h2, h8]
    · cases i with
      | zero => simp at he hu; subst he hu; exact h7
      | succ i => exact h4 i e u (by simpa using he) (by simpa using hu)

theorem results_run (hI : Inv C w0 M0 sm0 X0 g s a w) {fn : Func} {K : List Ent → Option (List Ent × Sig)} {r : List Ent × Sig} (h : resultsA C s fn.results.toList K = some r) :
    ∃ es vs v, K es = some r ∧ (results fn a.tmps).run C.P w = .ok v w ∧ (match vs with | [u] => v = u | _ => v = Value.tuple vs.toArray) ∧ es.length = vs.length ∧
      ∀ (i : Nat) e u, es[i]? = some e → vs[i]? = some u → RepE w g w0.heap.size e u := by
  obtain ⟨es, vs, h1, h2, h3, h4⟩ := resultsA_run hI h
  refine ⟨es, vs, if h : vs.toArray.size = 1 then vs.toArray[0] else Value.tuple vs.toArray, h1, ?_, ?_, h3, h4⟩
  · rw [results_eq]
    simp [Array.mapM_eq_mapM_toList, h2]
  · match vs with
    | [] => rfl
    | [u] => rfl
    | u :: u' :: vs => simp

/-- what a call of f does -/
def CallAt (C : Cfg) (f : FuncId) (F : List AVal → Sig → Option (List Ent × Sig)) : Prop :=
  ∀ args sg rs sg', F args sg = some (rs, sg') → ∀ (w : World) (M : Nat → Nat) (sm : List Nat) (vs : Array Value), args.length = vs.size →
    (∀ (i : Nat) x v, args[i]? = some x → vs[i]? = some v → RepB w M sm x v) → SigOk C w M sm sg → GlobOk C w M →
    Calls C.P f vs w fun e w' => ∃ v M' sm', e = .returned v ∧ After C w w' M M' sm sm' ∧ SigOk C w' M' sm' sg' ∧ RepRes w' M' sm' w.heap.size rs v

theorem sigOk_take {M : Nat → Nat} {sm r : List Nat} {sg : Sig} (h : SigOk C w M (sm ++ r) sg) : SigOk C w M sm (sg.take sm.length) := by
  obtain ⟨h1, h2, h3, h5⟩ := h
  have hap : ∀ (i : Nat) b, sm[i]? = some b → (sm ++ r)[i]? = some b := fun i b hi => by rw [List.getElem?_append_left (List.getElem?_eq_some_iff.1 hi).1]; exact hi
  refine ⟨by simp at h1 ⊢; omega, (List.nodup_append.1 h2).1, fun i b bx hi hb => ?_, fun i b k hi hk => ⟨fun hm => (h5 i b k (hap i b hi) hk).1 (by simp [hm]), fun j c hj hc => (h5 i b k (hap i b hi) hk).2 j c (hap j c hj) hc⟩⟩
  have hlt : i < sm.length := (List.getElem?_eq_some_iff.1 hi).1
  rw [List.getElem?_take, if_pos hlt] at hb
  have := h3 i b bx (by rw [List.getElem?_append_left hlt]; exact hi) hb
  cases bx with
  | bld s => exact this
  | cells l =>
    obtain ⟨k1, cur, T, kT, k2, k3, k4⟩ := this
    refine ⟨k1, cur, T, kT, k2, k3, fun j a v ha hv => ⟨(k4 j a v ha hv).1, ?_⟩⟩
    have := (k4 j a v ha hv).2
    simp only [gh0] at this ⊢
    rw [List.take_append_of_le_length (by omega)] at this
    exact this

theorem outs_length : ∀ (l : List Ent), (outs l).length = l.length
  | [] => rfl
  | e :: l => by simp [outs, outs_length l]
theorem outs_get : ∀ {l : List Ent} {i : Nat} {e : Ent}, (outs l)[i]? = some e → ∃ e0, l[i]? = some e0 ∧ e = (stripA e0.1, .none)
  | [], i, e, h => by simp [outs] at h
  | e0 :: l, 0, e, h => by simp [outs] at h; exact ⟨e0, rfl, h.symm⟩
  | e0 :: l, i + 1, e, h => by simp only [outs, List.getElem?_cons_succ] at h ⊢; exact outs_get h

theorem firstOwn_length (z : Option Nat) (l : List Ent) : (firstOwn z l).length = l.length := by
  unfold firstOwn
  split <;> rfl

theorem firstOwn_get {z : Option Nat} {l : List Ent} {i : Nat} {e : Ent} (h : (firstOwn z l)[i]? = some e) : ∃ e0, l[i]? = some e0 ∧ (e = e0 ∨ (i = 0 ∧ ∃ k, z = some k ∧ e = (e0.1, .id 2 k))) := by
  unfold firstOwn at h
  split at h
  · rename_i k e1 r
    cases i with
    | zero =>
      simp only [List.getElem?_cons_zero, Option.some.injEq] at h
      exact ⟨e1, rfl, .inr ⟨rfl, k, rfl, h.symm⟩⟩
    | succ i => exact ⟨e, by simpa using h, .inl rfl⟩
  · exact ⟨e, h, .inl rfl⟩

/-- the frame that is entered -/
theorem inv_enter {args : List AVal} {sg : Sig} {M : Nat → Nat} {sm : List Nat} {vs : Array Value} {X : Nat → Bool} (zo : Option Nat) (n : Nat) (hl : args.length = vs.size) (hh : handsAll args = true)
    (hr : ∀ (i : Nat) x v, args[i]? = some x → vs[i]? = some v → RepB w M sm x v) (hs : SigOk C w M sm sg) (hg : GlobOk C w M) (hlow : ∀ i o, C.low i = some o → X i = false) (hX : X = noX ∨ sm = [])
    (hz : ∀ z v, zo = some z → vs[0]? = some v → Given w M z v X) :
    Done C w M sm X { tm := firstOwn zo (args.map (stripA · , .none)) ++ List.replicate (n - args.length) (.undef, .none), lo := List.replicate n none, sg := sg } { tmps := vs ++ Array.replicate (n - vs.size) undef, defers := [] } w := by
  let g0 : Gh := { M := M, R := fun b => if X b = true then .own 2 else rolesOf C w sm (fun _ => .imm) b, lm := fun _ => none, sm := sm, og := fun _ => (vs[0]?).getD undef, gv := X }
  have hR : ∀ b, b ∈ sm → ∀ k, X k = false := fun b hb k => by
    rcases hX with rfl | rfl
    · rfl
    · cases hb
  have hlen : (firstOwn zo (args.map fun x => (stripA x, Own.none))).length = args.length := by rw [firstOwn_length, List.length_map]
  refine ⟨g0, rfl, rfl, .refl C w, Nat.le_refl _, fun _ _ _ _ => rfl, fun b _ => ⟨fun _ => rfl, Kept.refl w M b⟩, ⟨[], by simp [g0], fun b hb => by cases hb⟩, rfl, ?_, ?_, ?_, ?_, hs.1, ?_, fun i b k hi hk _ => ⟨hi, hk⟩, ?_, hg.low, fun b hb => hs.touch hb, hlow, rfl⟩
  · simp [hl, firstOwn_length]
  · intro t e v he hv
    simp only [List.getElem?_append, hlen] at he
    simp only [Array.getElem?_append] at hv
    split at he
    · rename_i hlt
      rw [if_pos (by omega)] at hv
      obtain ⟨e0, he0, hcase⟩ := firstOwn_get he
      rw [List.getElem?_map, Option.map_eq_some_iff] at he0
      obtain ⟨x, hx, rfl⟩ := he0
      have := hr t x v hx hv
      have hrep : RepA w g0 w.heap.size (stripA x) v := .b (strip_rep (g := g0) (base := w.heap.size) (.b this) (handsAll_get hh hx))
      rcases hcase with rfl | ⟨rfl, k, hk, rfl⟩
      · exact ⟨hrep, trivial⟩
      · refine ⟨hrep, ?_, ?_⟩
        · show v = (vs[0]?).getD undef
          rw [hv]; rfl
        · rcases hz k v hk hv with ⟨a, m, rfl, _⟩ | ⟨b, m, cap, cur, T, e1, e2, e3, e4, e5, e6, e7⟩
          · exact .inl ⟨a, m, rfl, fun h => by cases h⟩
          · have hXb : X b = true := by rw [e7]; simp
            exact .inr ⟨b, m, cap, cur, T, e1, e2, e3, e4, e5, e6, if_pos hXb, .inr hXb⟩
    · rename_i hlt
      rw [if_neg (by omega)] at hv
      rw [List.getElem?_replicate] at he
      rw [Array.getElem?_replicate] at hv
      split at he <;> cases he
      split at hv <;> cases hv
      exact ⟨.undef, trivial⟩
  · intro t
    simp only [List.getD_eq_getElem?_getD, List.getElem?_replicate, g0]
    split <;> simp
  · intro t b cells h; cases h
  · intro i b bx hi hb
    have hnx := hR b (List.mem_of_getElem? hi)
    refine ⟨?_, fun k hk => ?_, ?_⟩
    · show (if X b = true then _ else rolesOf C w sm (fun _ => .imm) b) = _
      rw [if_neg (by rw [hnx]; simp)]
      exact rolesOf_sig hs.2.1 hi
    · show (if X k = true then _ else rolesOf C w sm (fun _ => .imm) k) = _
      rw [if_neg (by rw [hnx]; simp)]
      exact rolesOf_buf hs.2.2.2 hi hk
    · have := hs.2.2.1 i b bx hi hb
      cases bx with
      | bld s => exact this
      | cells l => exact this
  · intro i cells hc
    cases hg.glob i cells hc with
    | imm vs h1 h2 h3 => exact .imm vs h1 h2 h3

theorem stOk_enter {args : List AVal} (zo : Option Nat) (hh : handsAll args = true) (n : Nat) (lo : List (Option (List Ent))) (sg : Sig) : StOk { tm := firstOwn zo (args.map (stripA · , .none)) ++ List.replicate n (.undef, .none), lo := lo, sg := sg } := by
  intro t e he
  simp only [List.getElem?_append] at he
  split at he
  · obtain ⟨e0, he0, hcase⟩ := firstOwn_get he
    rw [List.getElem?_map, Option.map_eq_some_iff] at he0
    obtain ⟨x, hx, rfl⟩ := he0
    have := handsAll_get hh hx
    have hok : OkV lo (stripA x) := okV_hands (by cases x <;> first | rfl | cases this)
    rcases hcase with rfl | ⟨_, k, _, rfl⟩
    · exact hok
    · exact hok
  · rw [List.getElem?_replicate] at he
    split at he <;> cases he
    exact okV_undef _

theorem row_fresh (hI : Inv C w0 M0 sm0 X0 g s a w) (hx0 : X0 = noX) {t n : Nat} {v : Value} (h : OwnOk w g w0.heap.size (.id t n) v) : FreshRow w g.M g.sm w0.heap.size n v := by
  obtain ⟨_, ⟨a, k, h, _⟩ | ⟨b, m, cap, cur, T, e1, e2, e3, e4, e5, e6, e7, e8⟩⟩ := h
  · exact .inl ⟨a, k, h⟩
  · refine .inr ⟨b, m, cap, cur, T, e1, e2, e3, e4, e5, e6, ?_, fun hb => ?_⟩
    · rcases e8 with e8 | e8
      · exact e8
      · rw [hI.low.2.2.2, hx0] at e8; cases e8
    · obtain ⟨i, hi⟩ := List.getElem?_of_mem hb
      have hlt : i < s.sg.length := by rw [hI.sglen]; exact (List.getElem?_eq_some_iff.1 hi).1
      have := (hI.sg i b _ hi (List.getElem?_eq_getElem hlt)).1
      rw [e7] at this
      cases this

theorem evF_sound (hC : CfgOk C) {call : CallFn} (hcall : CallOK C call) {f : FuncId} {lp : LoopFn} (hlp : ∀ F v r, lp F v = some r → ∃ n, evN.iterN F n v = some r) (ho : C.ownArg f = none) : CallAt C f (evF C call lp f) := by
  intro args sg rs sg' h w M sm vs hl hr hs hg
  unfold evF at h
  split at h
  · cases h
  · rename_i fn hfn
    split at h
    · cases h
    · rename_i body hbody
      obtain ⟨hh, h⟩ := cond_any h
      obtain ⟨ex, s', h1, _, _, h4⟩ := evC_sound hC hcall hlp body h (stOk_enter _ hh _ _ _)
      refine calls_of_wp hfn hbody (h4 w M sm noX _ _ w (fun a' w' hD' => ?_) (by have := inv_enter (X := noX) (C.ownArg f) fn.ntmps hl hh hr hs hg (fun _ _ _ => rfl) (.inl rfl) (fun z v hz => by rw [ho] at hz; cases hz); exact this))
      obtain ⟨g, hI⟩ := hD'
      have main : ∀ {K : List Ent → Option (List Ent × Sig)}, resultsA C s' fn.results.toList K = some (rs, sg') → (K = fun rs => cond (handsAll (rs.map (·.1)))
            (outsOwn (C.ownRes f) rs fun rs => some (rs, cond (fn.resultTypes.toList.all (plainT C.P) && plainL (rs.map (·.1))) (s'.sg.take sg.length) s'.sg)) none) →
          a'.defers = [] ∧ ∃ v, (results fn a'.tmps).run C.P w' = .ok v w' ∧ (∃ v' M' sm', Ending.returned v = .returned v' ∧ After C w w' M M' sm sm' ∧ SigOk C w' M' sm' sg' ∧ RepRes w' M' sm' w.heap.size rs v') := by
        intro K hk hK
        subst hK
        obtain ⟨es, us, v, k1, k2, k3, k4, k5⟩ := results_run hI hk
        refine ⟨hI.defers, v, k2, v, g.M, ?_⟩
        obtain ⟨k6, k7⟩ := cond_any k1
        -- the entries that go out
        have houts : ∃ rs', (∀ {F : List Ent → Option (List Ent × Sig)} {r}, outsOwn (C.ownRes f) es F = some r → F rs' = some r) ∧ rs'.length = us.length ∧
            (∀ (i : Nat) e u, rs'[i]? = some e → us[i]? = some u → RepB w' g.M g.sm e.1 u ∧ MarkRes w' g.M g.sm w.heap.size e.2 u) ∧
            ∀ (i j : Nat) (e e' : Ent) (t t' n n' : Nat), rs'[i]? = some e → rs'[j]? = some e' → e.2 = .id t n → e'.2 = .id t' n' → i = j := by
          have hget : ∀ (i : Nat) e u, (outs es)[i]? = some e → us[i]? = some u → RepB w' g.M g.sm e.1 u ∧ e.2 = .none := by
            intro i e u he hu
            obtain ⟨e0, he0, rfl⟩ := outs_get he
            refine ⟨strip_rep (k5 i e0 u he0 hu).1 (handsAll_get k6 (by rw [List.getElem?_map, he0]; rfl)), rfl⟩
          cases ho : C.ownRes f with
          | none =>
            refine ⟨outs es, fun h => h, by rw [outs_length, k4], fun i e u he hu => ?_, fun i j e e' t t' n n' he _ h _ => ?_⟩
            · obtain ⟨q1, q2⟩ := hget i e u he hu
              exact ⟨q1, by rw [q2]; trivial⟩
            · obtain ⟨e0, _, rfl⟩ := outs_get he
              cases h
          | some p =>
            obtain ⟨i0, m0⟩ := p
            have hmark : (∃ es0 o, es[i0]? = some (.dat (.sl es0), o) ∧ ∀ u, us[i0]? = some u → FreshRow w' g.M g.sm w.heap.size m0 u) ∧ ∀ {F : List Ent → Option (List Ent × Sig)} {r}, outsOwn (some (i0, m0)) es F = some r → F (markAt i0 (.id 0 m0) (outs es)) = some r := by
              rw [ho] at k7
              unfold outsOwn at k7
              simp only at k7
              split at k7
              · rename_i es0 t m he0
                obtain ⟨q1, q2⟩ := cond_any k7
                have q1 : m0 = m := by simpa using q1
                subst q1
                refine ⟨⟨_, _, he0, fun u hu => row_fresh hI rfl (k5 i0 _ u he0 hu).2⟩, fun {F r} h => ?_⟩
                unfold outsOwn at h
                simp only [he0] at h
                exact (cond_any h).2
              · rename_i es0 he0
                refine ⟨⟨_, _, he0, fun u hu => .inl ((k5 i0 _ u he0 hu).2)⟩, fun {F r} h => ?_⟩
                unfold outsOwn at h
                simp only [he0] at h
                exact (cond_any h).2
              · cases k7
            obtain ⟨⟨es0, o0, he0, hfr⟩, hF⟩ := hmark
            refine ⟨markAt i0 (.id 0 m0) (outs es), hF, by rw [markAt_length, outs_length, k4], fun i e u he hu => ?_, fun i j e e' t t' n n' he he' h h' => ?_⟩
            · rw [markAt_get] at he
              split at he
              · rename_i hi
                subst hi
                rw [Option.map_eq_some_iff] at he
                obtain ⟨e1, he1, rfl⟩ := he
                exact ⟨(hget i0 e1 u he1 hu).1, hfr u hu⟩
              · obtain ⟨q1, q2⟩ := hget i e u he hu
                exact ⟨q1, by rw [q2]; trivial⟩
            · have key : ∀ {i : Nat} {e : Ent} {t n : Nat}, (markAt i0 (.id 0 m0) (outs es))[i]? = some e → e.2 = .id t n → i0 = i := by
                intro i e t n he h
                rw [markAt_get] at he
                split at he
                · assumption
                · obtain ⟨e0, _, rfl⟩ := outs_get he
                  cases h
              exact (key he h).symm.trans (key he' h')
        obtain ⟨rs', hF, hrl, hrr, hru⟩ := houts
        have k8 := hF k7
        simp only [Option.some.injEq, Prod.mk.injEq] at k8
        obtain ⟨rfl, hsg⟩ := k8
        have hA : After C w w' M g.M sm g.sm := ⟨hI.os, hI.tape, hI.output, hI.hsize, fun b h1 h2 => hI.frame b h1 h2 rfl, fun b h1 => (hI.fm b h1).1 rfl, hI.smp, hI.bufs⟩
        cases ht : (fn.resultTypes.toList.all (plainT C.P) && plainL (rs'.map (·.1))) with
        | false =>
          rw [ht, cond_false] at hsg
          subst hsg
          exact ⟨g.sm, rfl, hA, hI.sigOk, us, k3, hrl, hrr, hru⟩
        | true =>
          rw [ht, cond_true] at hsg
          subst hsg
          simp only [Bool.and_eq_true] at ht
          obtain ⟨r, hr1, hr2⟩ := hI.smp
          have hSig := hI.sigOk
          rw [hr1] at hSig
          have hsl : sg.length = sm.length := hs.1
          rw [hsl]
          refine ⟨sm, rfl, ⟨hI.os, hI.tape, hI.output, hI.hsize, fun b h1 h2 => hI.frame b h1 h2 rfl, fun b h1 => (hI.fm b h1).1 rfl, ⟨[], by simp, fun b hb => by cases hb⟩, fun i b k hi hk hlt => hI.bufs i b k (by rw [hr1, List.getElem?_append_left (List.getElem?_eq_some_iff.1 hi).1]; exact hi) hk hlt⟩, sigOk_take hSig, us, k3, hrl, fun i e u he hu => ?_, hru⟩
          obtain ⟨q1, q2⟩ := hrr i e u he hu
          refine ⟨plainB q1 (plainL_get ht.2 (by rw [List.getElem?_map, he]; rfl)), ?_⟩
          cases ho : e.2 with
          | none => trivial
          | full => rw [ho] at q2; exact q2
          | id t n =>
            rw [ho] at q2
            rcases q2 with q2 | ⟨b, n, cap, cur, T, e1, e2, e3, e4, e5, e6, e7, e8⟩
            · exact .inl q2
            · exact .inr ⟨b, n, cap, cur, T, e1, e2, e3, e4, e5, e6, e7, fun hb => e8 (by rw [hr1]; simp [hb])⟩
      cases ex with
      | exit i => cases h1
      | normal => exact main h1 rfl
      | ret => exact main h1 rfl
  
theorem evF_own (hC : CfgOk C) {call : CallFn} (hcall : CallOK C call) {f : FuncId} {lp : LoopFn} (hlp : ∀ F v r, lp F v = some r → ∃ n, evN.iterN F n v = some r) {z : Nat} (ho : C.ownArg f = some z) : OwnAt C f z (evF C call lp f) := by
  intro es0 rest rs sg' h w M v0 vr X hl hr0 hG hr hg hlow
  have hres := (hC.own f z ho).1
  unfold evF at h
  split at h
  · cases h
  · rename_i fn hfn
    split at h
    · cases h
    · rename_i body hbody
      obtain ⟨hh, h⟩ := cond_any h
      obtain ⟨ex, s', h1, _, _, h4⟩ := evC_sound hC hcall hlp body h (stOk_enter _ hh _ _ _)
      have hargs : ∀ (i : Nat) x v, (AVal.dat (.sl es0) :: rest)[i]? = some x → (v0 :: vr).toArray[i]? = some v → RepB w M [] x v := by
        intro i x v hx hv
        cases i with
        | zero => simp at hx hv; subst hx hv; exact .dat hr0
        | succ i => exact hr i x v (by simpa using hx) (by simpa using hv)
      refine calls_of_wp hfn hbody (h4 w M [] X _ _ w (fun a' w' hD' => ?_) (by
        have := inv_enter (X := X) (vs := (v0 :: vr).toArray) (C.ownArg f) fn.ntmps (by simpa using hl) hh hargs (sigOk_nil C w M) hg hlow (.inr rfl) (fun z' v hz hv => by
          rw [ho] at hz
          cases hz
          simp at hv
          subst hv
          exact hG)
        exact this))
      obtain ⟨g, hI⟩ := hD'
      have main : ∀ {K : List Ent → Option (List Ent × Sig)}, resultsA C s' fn.results.toList K = some (rs, sg') → (K = fun rs => cond (handsAll (rs.map (·.1)))
            (outsOwn (C.ownRes f) rs fun rs => some (rs, cond (fn.resultTypes.toList.all (plainT C.P) && plainL (rs.map (·.1))) (s'.sg.take ([] : Sig).length) s'.sg)) none) →
          a'.defers = [] ∧ ∃ v, (results fn a'.tmps).run C.P w' = .ok v w' ∧ (∃ v' M', Ending.returned v = .returned v' ∧ AfterX C X w w' M M' ∧ ∀ fs t, rs = [(.dat (.sl fs), .id t z)] → Rep w' M' (.sl fs) v' ∧ FreshX w' M' X w.heap.size z v') := by
        intro K hk hK
        subst hK
        obtain ⟨es, us, v, k1, k2, k3, k4, k5⟩ := results_run hI hk
        refine ⟨hI.defers, v, k2, v, g.M, rfl, ⟨hI.os, hI.tape, hI.output, hI.hsize, fun b h1 h2 => hI.frame b h1 touch_nil h2, fun b h1 h2 => (hI.fm b h1).1 h2, fun b h1 => (hI.fm b h1).2⟩, fun fs t hrs => ?_⟩
        obtain ⟨k6, k7⟩ := cond_any k1
        rw [hres] at k7
        have hkey : ∃ o, es[0]? = some (.dat (.sl fs), o) ∧ us.length = 1 ∧ ((∃ t, o = .id t z) ∨ o = .full) := by
          dsimp only [outsOwn] at k7
          have hshape : ∀ (e0 : Ent) (x : List (List Dat)), es[0]? = some e0 → e0.1 = .dat (.sl x) → (markAt 0 (Own.id 0 z) (outs es), cond (fn.resultTypes.toList.all (plainT C.P) && plainL ((markAt 0 (Own.id 0 z) (outs es)).map (·.1))) (s'.sg.take ([] : Sig).length) s'.sg) = (rs, sg') → x = fs ∧ us.length = 1 := by
            intro e0 x he0 hx heq
            have heq := congrArg Prod.fst heq
            simp only at heq
            rw [hrs] at heq
            match es, he0, k4, heq with
            | e1 :: er, he0, k4, heq =>
              simp only [List.getElem?_cons_zero, Option.some.injEq] at he0
              subst he0
              simp only [outs, markAt, List.cons.injEq, Prod.mk.injEq] at heq
              obtain ⟨⟨h5, _⟩, h6⟩ := heq
              rw [hx] at h5
              simp only [stripA, AVal.dat.injEq, Dat.sl.injEq] at h5
              have : er = [] := by
                cases er with
                | nil => rfl
                | cons e er => simp [outs] at h6
              subst this
              exact ⟨h5, by simpa using k4.symm⟩
          split at k7
          · rename_i x t' m he0
            obtain ⟨q1, q2⟩ := cond_any k7
            have q1 : z = m := by simpa using q1
            subst q1
            obtain ⟨rfl, h6⟩ := hshape _ x he0 rfl (Option.some.inj q2)
            exact ⟨_, he0, h6, .inl ⟨t', rfl⟩⟩
          · rename_i x he0
            obtain ⟨q1, q2⟩ := cond_any k7
            obtain ⟨rfl, h6⟩ := hshape _ x he0 rfl (Option.some.inj q2)
            exact ⟨_, he0, h6, .inr rfl⟩
          · cases k7
        obtain ⟨o, he0, hul, hoo⟩ := hkey
        match us, hul, k3, k5 with
        | [u], _, k3, k5 =>
        subst k3
        obtain ⟨q1, q2⟩ := k5 0 _ _ he0 rfl
        refine ⟨q1.dat_inv, ?_⟩
        rcases hoo with ⟨t', rfl⟩ | rfl
        · obtain ⟨_, ⟨a6, n6, h6, _⟩ | ⟨b, m, cap, cur, T, e1, e2, e3, e4, e5, e6, e7, e8⟩⟩ := q2
          · exact .inl ⟨a6, n6, h6⟩
          · exact .inr ⟨b, m, cap, cur, T, e1, e2, e3, e4, e5, e6, by rw [hI.low.2.2.2] at e8; exact e8⟩
        · exact .inl q2
      cases ex with
      | exit i => cases h1
      | normal => exact main h1 rfl
      | ret => exact main h1 rfl

end

/-! ### limits -/

open Classical in
noncomputable def lim {α : Type} (F : Nat → Option α) : Option α := if h : ∃ n r, F n = some r then F h.choose else none

theorem lim_some {α : Type} {F : Nat → Option α} {r : α} (h : lim F = some r) : ∃ n, F n = some r := by
  unfold lim at h
  split at h
  · exact ⟨_, h⟩
  · cases h

theorem mono_le {α : Type} {F : Nat → Option α} (hm : ∀ n r, F n = some r → F (n + 1) = some r) {n : Nat} {r : α} (h : F n = some r) : ∀ k, F (n + k) = some r
  | 0 => h
  | k + 1 => hm _ _ (mono_le hm h k)

theorem lim_of {α : Type} {F : Nat → Option α} (hm : ∀ n r, F n = some r → F (n + 1) = some r) {n : Nat} {r : α} (h : F n = some r) : lim F = some r := by
  have hex : ∃ n r, F n = some r := ⟨n, r, h⟩
  unfold lim
  rw [dif_pos hex]
  obtain ⟨r', hr'⟩ := hex.choose_spec
  have h1 := mono_le hm hr' n
  have h2 := mono_le hm h hex.choose
  rw [Nat.add_comm] at h2
  rw [hr', ← h1, h2]

/-- the rounds of a loop -/
noncomputable def iterL : LoopFn := fun F v => lim fun n => evN.iterN F n v

theorem iterN_mono {F : Vars → Option (Ex × Vars)} : ∀ (n : Nat) (v : Vars) (r : Ex × Vars), evN.iterN F n v = some r → evN.iterN F (n + 1) v = some r
  | 0, v, r, h => by cases h
  | n + 1, v, r, h => by
    rw [evN.iterN, Option.bind_eq_some_iff] at h ⊢
    obtain ⟨⟨e, v'⟩, h1, h2⟩ := h
    refine ⟨(e, v'), h1, ?_⟩
    cases e with
    | normal => exact iterN_mono n v' r h2
    | exit i => exact h2
    | ret => exact h2

theorem iterL_some (F : Vars → Option (Ex × Vars)) (v : Vars) (r : Ex × Vars) (h : iterL F v = some r) : ∃ n, evN.iterN F n v = some r := lim_some h

theorem iterL_of {F : Vars → Option (Ex × Vars)} {n : Nat} {v : Vars} {r : Ex × Vars} (h : evN.iterN F n v = some r) : iterL F v = some r := lim_of (fun n r h => iterN_mono n v r h) h

theorem iterL_step {F : Vars → Option (Ex × Vars)} {v : Vars} {e : Ex} {v' : Vars} (h : F v = some (e, v')) : iterL F v = (match e with
    | .normal => iterL F v'
    | _ => some (e, v')) := by
  cases e with
  | normal =>
    simp only
    cases h2 : iterL F v' with
    | some r =>
      obtain ⟨n, hn⟩ := iterL_some _ _ _ h2
      exact iterL_of (n := n + 1) (by rw [evN.iterN, h]; exact hn)
    | none =>
      cases h3 : iterL F v with
      | none => rfl
      | some r =>
        obtain ⟨n, hn⟩ := iterL_some _ _ _ h3
        cases n with
        | zero => cases hn
        | succ n =>
          rw [evN.iterN, h] at hn
          rw [iterL_of (n := n) hn] at h2
          cases h2
  | exit i => exact iterL_of (n := 1) (by rw [evN.iterN, h]; rfl)
  | ret => exact iterL_of (n := 1) (by rw [evN.iterN, h]; rfl)

/-- calls so deep -/
noncomputable def callN (C : Cfg) : Nat → CallFn
  | 0, _, _, _ => none
  | k + 1, f, args, sg => match C.prim f with
    | some g => g args sg
    | none => evF C (callN C k) iterL f args sg

/-- calls -/
noncomputable def callL (C : Cfg) : CallFn := fun f args sg => lim fun n => callN C n f args sg

section
variable {C : Cfg}

theorem callN_ok (hC : CfgOk C) (hp : ∀ f F, C.prim f = some F → CallAt C f F) : ∀ n, CallOK C (callN C n)
  | 0 => ⟨fun f _ args sg rs sg' h => (by cases h), fun f z _ es rest rs sg' h => (by cases h)⟩
  | n + 1 => by
    refine ⟨fun f ho => ?_, fun f z ho => ?_⟩
    · show CallAt C f (callN C (n + 1) f)
      intro args sg rs sg' h
      simp only [callN] at h
      split at h
      · rename_i F hF
        exact hp f F hF args sg rs sg' h
      · exact evF_sound hC (callN_ok hC hp n) iterL_some ho args sg rs sg' h
    · intro es rest rs sg' h
      simp only [callN, (hC.own f z ho).2] at h
      exact evF_own hC (callN_ok hC hp n) iterL_some ho es rest rs sg' h

theorem callL_ok (hC : CfgOk C) (hp : ∀ f F, C.prim f = some F → CallAt C f F) : CallOK C (callL C) := by
  refine ⟨fun f ho args sg rs sg' h => ?_, fun f z ho es rest rs sg' h => ?_⟩
  · obtain ⟨n, hn⟩ := lim_some h
    exact (callN_ok hC hp n).plain f ho args sg rs sg' hn
  · obtain ⟨n, hn⟩ := lim_some h
    exact (callN_ok hC hp n).own f z ho es rest rs sg' hn

end
end Go.Aev

end
section
/- What a piece of code asks of the calls that it makes. -/
namespace Go.Aev

abbrev Fact := FuncId × List AVal × Sig × (List Ent × Sig)

def Meets (call : CallFn) (T : List Fact) : Prop := ∀ t ∈ T, call t.1 t.2.1 t.2.2.1 = some t.2.2.2

theorem meets_nil (call : CallFn) : Meets call [] := fun t ht => by cases ht
theorem meets_app {call : CallFn} {T U : List Fact} : Meets call (T ++ U) ↔ Meets call T ∧ Meets call U :=
  ⟨fun h => ⟨fun t ht => h t (by simp [ht]), fun t ht => h t (by simp [ht])⟩, fun h t ht => by
    rcases List.mem_append.1 ht with ht | ht
    · exact h.1 t ht
    · exact h.2 t ht⟩

section
variable {β : Type} {r : β} {C : Cfg} {call : CallFn} {f : FuncId}

theorem callA_use {ns : Bool} {sg : Sig} {dst : Option Nat} {g : FuncId} {args : List AVal} {K : Dl → Option β} (h : callA C call ns sg dst g args K = some r) :
    ∃ T, Meets call T ∧ ∀ call', Meets call' T → ∀ (γ : Type) (G : Dl → Option γ), callA C call' ns sg dst g args G = callA C call ns sg dst g args G := by
  unfold callA at h
  split at h
  · rename_i fn dt hfn
    cases hh : (!handsAll args || fn.body.isNone || (C.ownArg g).isSome) with
    | true => rw [hh] at h; cases h
    | false =>
      rw [hh, cond_false] at h
      cases hpl : (plainL args && fn.resultTypes.toList.all (plainT C.P)) with
      | true =>
        rw [hpl, cond_true] at h
        simp only [Option.bind_eq_some_iff] at h
        obtain ⟨res, hc, h⟩ := h
        refine ⟨[(g, args.map stripA, [], res)], fun t ht => by rw [List.mem_singleton] at ht; subst ht; exact hc, fun call' hm γ G => ?_⟩
        have hc' : call' g (args.map stripA) [] = some res := hm _ List.mem_cons_self
        simp only [callA, hfn, hh, hpl, hc, hc', cond_true, cond_false]
      | false =>
        rw [hpl, cond_false] at h
        cases hns : (ns || (C.ownRes g).isSome) with
        | true => rw [hns] at h; cases h
        | false =>
          rw [hns, cond_false] at h
          simp only [Option.bind_eq_some_iff] at h
          obtain ⟨res, hc, h⟩ := h
          refine ⟨[(g, args.map stripA, sg, res)], fun t ht => by rw [List.mem_singleton] at ht; subst ht; exact hc, fun call' hm γ G => ?_⟩
          have hc' : call' g (args.map stripA) sg = some res := hm _ List.mem_cons_self
          simp only [callA, hfn, hh, hpl, hns, hc, hc', cond_false]
  · cases h

theorem ownCallA_use {g : FuncId} {z : Nat} {x : Ent} {rest : List AVal} {K : Dl → Option β} (h : ownCallA C call g z x rest K = some r) :
    ∃ T, Meets call T ∧ ∀ call', Meets call' T → ∀ (γ : Type) (G : Dl → Option γ), ownCallA C call' g z x rest G = ownCallA C call g z x rest G := by
  obtain ⟨fn, es, t, rs, sg', fs, u, h1, rfl, h3, h4, h5, h6, rfl, h8⟩ := ownCallA_some h
  refine ⟨[(g, .dat (.sl es) :: rest.map stripA, [], _)], fun t ht => by rw [List.mem_singleton] at ht; subst ht; exact h6, fun call' hm γ G => ?_⟩
  have hc' : call' g (.dat (.sl es) :: rest.map stripA) [] = some _ := hm _ List.mem_cons_self
  simp only [ownCallA, h1, h6, hc']

theorem evD_use {ns : Bool} {ev : Operand → Ent} {lo : List (Option (List Ent))} {sg : Sig} {o : Oper} {K : Dl → Option β} (h : evD C call f ns ev lo sg o K = some r) :
    ∃ T, Meets call T ∧ ∀ call', Meets call' T → ∀ (γ : Type) (G : Dl → Option γ), evD C call' f ns ev lo sg o G = evD C call f ns ev lo sg o G := by
  cases hop : o.op
  case call c =>
    unfold evD at h ⊢
    simp only [hop] at h ⊢
    split at h
    · exact ⟨[], meets_nil _, fun _ _ _ _ => rfl⟩
    · exact ⟨[], meets_nil _, fun _ _ _ _ => rfl⟩
    · exact ⟨[], meets_nil _, fun _ _ _ _ => rfl⟩
    · exact ⟨[], meets_nil _, fun _ _ _ _ => rfl⟩
    · rename_i fo hfo
      split at h
      · rename_i p hp
        exact ⟨[], meets_nil _, fun call' hm γ G => by simp only [hp]⟩
      rename_i hp
      split at h
      · rename_i p hp2
        obtain ⟨T, h3, h4⟩ := ownCallA_use h
        exact ⟨T, h3, fun call' hm γ G => h4 call' hm γ G⟩
      rename_i hp2
      split at h
      · rename_i g first caps hev
        obtain ⟨h1, h2⟩ := cond_any h
        obtain ⟨T, h3, h4⟩ := callA_use h2
        refine ⟨T, h3, fun call' hm γ G => ?_⟩
        rw [h1, cond_true]
        exact h4 call' hm γ G
      · cases h
    · cases h
  all_goals exact ⟨[], meets_nil _, fun _ _ _ _ => by unfold evD; simp only [hop]⟩

theorem evOp_use {ns : Bool} {s : St} {o : Oper} {K : St → Option β} (h : evOp C call f ns s o K = some r) :
    ∃ T, Meets call T ∧ ∀ call', Meets call' T → ∀ (γ : Type) (G : St → Option γ), evOp C call' f ns s o G = evOp C call f ns s o G := by
  obtain ⟨T, h1, h2⟩ := evD_use h
  exact ⟨T, h1, fun call' hm γ G => h2 call' hm γ _⟩

theorem evOper_use {ns : Bool} {ops : Array Oper} {s : St} {o : Oper} {K : St → Option β} (h : evOper C call f ns ops s o K = some r) :
    ∃ T, Meets call T ∧ ∀ call', Meets call' T → ∀ (γ : Type) (G : St → Option γ), evOper C call' f ns ops s o G = evOper C call f ns ops s o G := by
  unfold evOper at h
  split at h
  · rename_i hg
    obtain ⟨T, h1, h2⟩ := evOp_use h
    exact ⟨T, h1, fun call' hm γ G => by simp only [evOper, hg]; exact h2 call' hm γ G⟩
  · rename_i j want hg
    split at h
    · rename_i hj
      exact ⟨[], meets_nil _, fun call' hm γ G => by simp only [evOper, hg, hj]⟩
    · rename_i d hj
      split at h
      · rename_i b ow hd
        cases b with
        | true =>
          simp only [cond_true] at h
          cases want with
          | true =>
            simp only [cond_true] at h
            obtain ⟨T, h1, h2⟩ := evOp_use h
            exact ⟨T, h1, fun call' hm γ G => by simp only [evOper, hg, hj, hd, cond_true]; exact h2 call' hm γ G⟩
          | false => exact ⟨[], meets_nil _, fun call' hm γ G => by simp only [evOper, hg, hj, hd, cond_true, cond_false]⟩
        | false =>
          simp only [cond_false] at h
          cases want with
          | true => exact ⟨[], meets_nil _, fun call' hm γ G => by simp only [evOper, hg, hj, hd, cond_true, cond_false]⟩
          | false =>
            simp only [cond_false] at h
            obtain ⟨T, h1, h2⟩ := evOp_use h
            exact ⟨T, h1, fun call' hm γ G => by simp only [evOper, hg, hj, hd, cond_false]; exact h2 call' hm γ G⟩
      · rename_i hd
        exact ⟨[], meets_nil _, fun call' hm γ G => by simp only [evOper, hg, hj, hd]⟩
      · cases h

theorem evOps_use {ops : Array Oper} {ns : Nat → Bool} : ∀ {l : List Oper} {i : Nat} {s : St} {β : Type} {K : St → Option β} {r : β}, evOps C call f ops ns i l s K = some r →
    ∃ s' T, K s' = some r ∧ (∀ (γ : Type) (G : St → Option γ), evOps C call f ops ns i l s G = G s') ∧ Meets call T ∧
      ∀ call', Meets call' T → ∀ (γ : Type) (G : St → Option γ), evOps C call' f ops ns i l s G = G s'
  | [], i, s, β, K, r, h => ⟨s, [], h, fun _ _ => rfl, meets_nil _, fun _ _ _ _ => rfl⟩
  | o :: l, i, s, β, K, r, h => by
    simp only [evOps] at h
    obtain ⟨T, h1, h2⟩ := evOper_use h
    obtain ⟨s1, _, h3, h4⟩ := evOper_all h
    obtain ⟨s2, U, h5, h6, h7, h8⟩ := evOps_use h3
    refine ⟨s2, T ++ U, h5, fun γ G => ?_, meets_app.2 ⟨h1, h7⟩, fun call' hm γ G => ?_⟩
    · simp only [evOps]; rw [h4, h6]
    · have hm' := meets_app.1 hm
      simp only [evOps]
      rw [h2 call' hm'.1, h4, h8 call' hm'.2]

theorem evReg_use {id : Nat} {ops : Array Oper} {draw : Bool} {s : St} {K : St → Option β} (h : evReg C call f id ops draw s K = some r) :
    ∃ s' T, K s' = some r ∧ (∀ (γ : Type) (G : St → Option γ), evReg C call f id ops draw s G = G s') ∧ Meets call T ∧
      ∀ call', Meets call' T → ∀ (γ : Type) (G : St → Option γ), evReg C call' f id ops draw s G = G s' := by
  unfold evReg at h
  dsimp only at h
  cases hd : (draw && !drawOk C f ops (befores ops.toList)) with
  | true => rw [hd] at h; cases h
  | false =>
    rw [hd, cond_false] at h
    cases hj : C.join f id with
    | true =>
      rw [hj, cond_true] at h
      split at h
      · rename_i o hlast
        split at h
        · rename_i d hdst
          obtain ⟨hq, h⟩ := cond_any h
          rw [Option.bind_eq_some_iff] at h
          obtain ⟨e, h1, h2⟩ := h
          obtain ⟨s1, T, h3, h4, h5, h6⟩ := evOps_use h1
          cases h3
          obtain ⟨e', h7, h8⟩ := decVal_any (γ := Ent) h2
          have hall : ∀ (γ : Type) (G : Ent → Option γ), decVal C.P o.type ((s1.tm.getD d (.junk, .none)).1, .none) G = G e' := by
            intro γ G
            obtain ⟨e2, h9, h10⟩ := decVal_any (γ := γ) (h7 some)
            cases h10
            exact h9 G
          refine ⟨_, T, h8, fun γ G => ?_, h5, fun call' hm γ G => ?_⟩
          · unfold evReg
            dsimp only
            simp only [hd, hj, cond_false, cond_true, hlast, hdst, hq]
            rw [h4, Option.bind_some, hall]
          · unfold evReg
            dsimp only
            simp only [hd, hj, cond_false, cond_true, hlast, hdst, hq]
            rw [h6 call' hm, Option.bind_some, hall]
        · cases h
      · cases h
    | false =>
      rw [hj, cond_false] at h
      obtain ⟨s1, T, h3, h4, h5, h6⟩ := evOps_use h
      cases hy : (draw && !drawDyn ops (befores ops.toList) s1) with
      | true => rw [hy] at h3; cases h3
      | false =>
        rw [hy, cond_false] at h3
        refine ⟨s1, T, h3, fun γ G => ?_, h5, fun call' hm γ G => ?_⟩
        · unfold evReg
          dsimp only
          simp only [hd, hj, cond_false]
          rw [h4]
          simp only [hy, cond_false]
        · unfold evReg
          dsimp only
          simp only [hd, hj, cond_false]
          rw [h6 call' hm]
          simp only [hy, cond_false]

theorem packV_all {L : LoopCfg} {s : St} {K : Vars → Option β} (h : packV L s K = some r) : ∃ v, (∀ (γ : Type) (G : Vars → Option γ), packV L s G = G v) ∧ K v = some r := by
  obtain ⟨v, h1, h2⟩ := packV_any (γ := Vars) h
  refine ⟨v, fun γ G => ?_, h2⟩
  obtain ⟨v', h3, h4⟩ := packV_any (γ := γ) (h1 some)
  cases h4
  exact h3 G

theorem unpackV_all {L : LoopCfg} {s : St} {v : Vars} {K : St → Option β} (h : unpackV C L s v K = some r) : ∃ s1, (∀ (γ : Type) (G : St → Option γ), unpackV C L s v G = G s1) ∧ K s1 = some r := by
  obtain ⟨s1, h1, h2⟩ := unpackV_any (γ := St) h
  refine ⟨s1, fun γ G => ?_, h2⟩
  obtain ⟨v', h3, h4⟩ := unpackV_any (γ := γ) (h1 some)
  cases h4
  exact h3 G

theorem onEx_all {e : Ex} {s : St} : ∀ {ids : List Nat} {F : Ex → Option β}, onEx e ids F = some r → F e = some r ∧ ∀ (γ : Type) (G : Ex → Option γ), onEx e ids G = G e
  | [], F, h => by
    simp only [onEx] at h
    obtain ⟨h1, h2⟩ := cond_any h
    cases e <;> first | exact ⟨h2, fun γ G => rfl⟩ | cases h1
  | i :: ids, F, h => by
    simp only [onEx] at h
    cases he : e.isExit i with
    | true =>
      rw [he, cond_true] at h
      cases e with
      | exit j =>
        have : j = i := by simpa [Ex.isExit] using he
        subst this
        exact ⟨h, fun γ G => by simp only [onEx, he, cond_true]⟩
      | normal => cases he
      | ret => cases he
    | false =>
      rw [he, cond_false] at h
      obtain ⟨h1, h2⟩ := onEx_all (s := s) h
      exact ⟨h1, fun γ G => by simp only [onEx, he, cond_false]; exact h2 γ G⟩

theorem iter_use {F : CallFn → Vars → Option (Ex × Vars)} (hF : ∀ v q, F call v = some q → ∃ T, Meets call T ∧ ∀ call', Meets call' T → F call' v = some q) :
    ∀ (n : Nat) (v : Vars) (q : Ex × Vars), evN.iterN (F call) n v = some q → ∃ T, Meets call T ∧ ∀ call', Meets call' T → evN.iterN (F call') n v = some q
  | 0, v, q, h => by cases h
  | n + 1, v, q, h => by
    rw [evN.iterN, Option.bind_eq_some_iff] at h
    obtain ⟨⟨e, v1⟩, h1, h2⟩ := h
    obtain ⟨T, h3, h4⟩ := hF v _ h1
    cases e with
    | normal =>
      obtain ⟨U, h5, h6⟩ := iter_use hF n v1 q h2
      refine ⟨T ++ U, meets_app.2 ⟨h3, h5⟩, fun call' hm => ?_⟩
      rw [evN.iterN, h4 call' (meets_app.1 hm).1]
      exact h6 call' (meets_app.1 hm).2
    | exit i => exact ⟨T, h3, fun call' hm => by rw [evN.iterN, h4 call' hm]; exact h2⟩
    | ret => exact ⟨T, h3, fun call' hm => by rw [evN.iterN, h4 call' hm]; exact h2⟩

theorem evC_use : ∀ (c : Code) {b : Nat} {β : Type} {s : St} {K : Ex → St → Option β} {r : β}, evC C call iterL f c b β s K = some r →
    ∃ ex s' T, K ex s' = some r ∧ (∀ (γ : Type) (G : Ex → St → Option γ), evC C call iterL f c b γ s G = G ex s') ∧ Meets call T ∧
      ∀ call', Meets call' T → ∀ (γ : Type) (G : Ex → St → Option γ), evC C call' iterL f c b γ s G = G ex s' := by
  intro c
  induction c with
  | skip => intro b β s K r h; exact ⟨.normal, s, [], h, fun _ _ => rfl, meets_nil _, fun _ _ _ _ => rfl⟩
  | label l => intro b β s K r h; exact ⟨.normal, s, [], h, fun _ _ => rfl, meets_nil _, fun _ _ _ _ => rfl⟩
  | exit id => intro b β s K r h; exact ⟨.exit id, s, [], h, fun _ _ => rfl, meets_nil _, fun _ _ _ _ => rfl⟩
  | ret => intro b β s K r h; exact ⟨.ret, s, [], h, fun _ _ => rfl, meets_nil _, fun _ _ _ _ => rfl⟩
  | region id ops draw =>
    intro b β s K r h
    simp only [evC] at h
    obtain ⟨s', T, h1, h2, h3, h4⟩ := evReg_use h
    exact ⟨.normal, s', T, h1, fun γ G => h2 γ _, h3, fun call' hm γ G => h4 call' hm γ _⟩
  | seq x y ihx ihy =>
    intro b β s K r h
    simp only [evC] at h
    obtain ⟨ex, s1, T, h1, h2, h3, h4⟩ := ihx h
    cases ex with
    | normal =>
      obtain ⟨ex', s2, U, h5, h6, h7, h8⟩ := ihy h1
      refine ⟨ex', s2, T ++ U, h5, fun γ G => ?_, meets_app.2 ⟨h3, h7⟩, fun call' hm γ G => ?_⟩
      · simp only [evC]; rw [h2]; exact h6 γ G
      · simp only [evC]; rw [h4 call' (meets_app.1 hm).1]; exact h8 call' (meets_app.1 hm).2 γ G
    | exit i => exact ⟨.exit i, s1, T, h1, fun γ G => by simp only [evC]; rw [h2], h3, fun call' hm γ G => by simp only [evC]; rw [h4 call' hm]⟩
    | ret => exact ⟨.ret, s1, T, h1, fun γ G => by simp only [evC]; rw [h2], h3, fun call' hm γ G => by simp only [evC]; rw [h4 call' hm]⟩
  | cond c x y ihx ihy =>
    intro b β s K r h
    simp only [evC] at h
    split at h
    · rename_i t ht
      cases t with
      | true =>
        obtain ⟨ex, s1, T, h1, h2, h3, h4⟩ := ihx h
        exact ⟨ex, s1, T, h1, fun γ G => by simp only [evC, ht, cond_true]; exact h2 γ G, h3, fun call' hm γ G => by simp only [evC, ht, cond_true]; exact h4 call' hm γ G⟩
      | false =>
        obtain ⟨ex, s1, T, h1, h2, h3, h4⟩ := ihy h
        exact ⟨ex, s1, T, h1, fun γ G => by simp only [evC, ht, cond_false]; exact h2 γ G, h3, fun call' hm γ G => by simp only [evC, ht, cond_false]; exact h4 call' hm γ G⟩
    · cases h
  | scope x ih =>
    intro b β s K r h
    simp only [evC] at h
    obtain ⟨ex, s1, T, h1, h2, h3, h4⟩ := ih h
    exact ⟨ex, s1, T, h1, fun γ G => by simp only [evC]; exact h2 γ G, h3, fun call' hm γ G => by simp only [evC]; exact h4 call' hm γ G⟩
  | block id x ih =>
    intro b β s K r h
    simp only [evC] at h
    obtain ⟨ex, s1, T, h1, h2, h3, h4⟩ := ih h
    cases ex with
    | normal => exact ⟨.normal, s1, T, h1, fun γ G => by simp only [evC]; rw [h2], h3, fun call' hm γ G => by simp only [evC]; rw [h4 call' hm]⟩
    | ret => exact ⟨.ret, s1, T, h1, fun γ G => by simp only [evC]; rw [h2], h3, fun call' hm γ G => by simp only [evC]; rw [h4 call' hm]⟩
    | exit j =>
      simp only at h1
      cases hj : (j == id) with
      | true =>
        rw [hj, cond_true] at h1
        exact ⟨.normal, s1, T, h1, fun γ G => by simp only [evC]; rw [h2]; simp only [hj, cond_true], h3, fun call' hm γ G => by simp only [evC]; rw [h4 call' hm]; simp only [hj, cond_true]⟩
      | false =>
        rw [hj, cond_false] at h1
        exact ⟨.exit j, s1, T, h1, fun γ G => by simp only [evC]; rw [h2]; simp only [hj, cond_false], h3, fun call' hm γ G => by simp only [evC]; rw [h4 call' hm]; simp only [hj, cond_false]⟩
  | loop x ih =>
    intro b β s K r h
    simp only [evC] at h
    obtain ⟨h1, h2⟩ := cond_any h
    obtain ⟨v, h3, h4⟩ := packV_all h2
    rw [Option.bind_eq_some_iff] at h4
    obtain ⟨⟨e, v'⟩, h5, h6⟩ := h4
    obtain ⟨s1, h7, h8⟩ := unpackV_all h6
    obtain ⟨h9, h10⟩ := onEx_all (s := s1) h8
    obtain ⟨n, hn⟩ := iterL_some _ _ _ h5
    obtain ⟨T, h11, h12⟩ := iter_use (call := call) (F := fun call v => unpackV C (C.loop f b) s v fun s => evC C call iterL f x b (Ex × Vars) s fun e s => packV (C.loop f b) s fun v => some (e, v)) (fun v q hq => by
      obtain ⟨s2, k1, k2⟩ := unpackV_all hq
      obtain ⟨e2, s3, T, k3, k4, k5, k6⟩ := ih k2
      refine ⟨T, k5, fun call' hm => ?_⟩
      rw [k1, k6 call' hm]
      exact k3) n v _ hn
    refine ⟨e, s1, T, h9, fun γ G => ?_, h11, fun call' hm γ G => ?_⟩
    · simp only [evC, h1, cond_true]
      rw [h3, h5, Option.bind_some, h7, h10]
    · simp only [evC, h1, cond_true]
      rw [h3, iterL_of (h12 call' hm), Option.bind_some, h7, h10]
  | _ => intro b β s K r h; simp only [evC, reduceCtorEq] at h

theorem evF_use {args : List AVal} {sg : Sig} {q : List Ent × Sig} (h : evF C call iterL f args sg = some q) : ∃ T, Meets call T ∧ ∀ call', Meets call' T → evF C call' iterL f args sg = some q := by
  unfold evF at h
  split at h
  · cases h
  · rename_i fn hfn
    split at h
    · cases h
    · rename_i body hbody
      obtain ⟨hh, h⟩ := cond_any h
      obtain ⟨ex, s', T, h1, _, h3, h4⟩ := evC_use body h
      refine ⟨T, h3, fun call' hm => ?_⟩
      unfold evF
      simp only [hfn, hbody, hh, cond_true]
      rw [h4 call' hm]
      exact h1

theorem callN_mono : ∀ (n : Nat) {f : FuncId} {args : List AVal} {sg : Sig} {q : List Ent × Sig}, callN C n f args sg = some q → callN C (n + 1) f args sg = some q
  | 0, f, args, sg, q, h => by cases h
  | n + 1, f, args, sg, q, h => by
    rw [callN] at h ⊢
    split at h
    · exact h
    · obtain ⟨T, h1, h2⟩ := evF_use h
      exact h2 _ fun t ht => callN_mono n (h1 t ht)

theorem callL_meets {T : List Fact} (h : Meets (callL C) T) : ∃ n, Meets (callN C n) T := by
  induction T with
  | nil => exact ⟨0, meets_nil _⟩
  | cons t T ih =>
    obtain ⟨n, hn⟩ := ih fun u hu => h u (by simp [hu])
    obtain ⟨m, hm⟩ := lim_some (h t (by simp))
    refine ⟨m + n, fun u hu => ?_⟩
    rcases List.mem_cons.1 hu with rfl | hu
    · exact mono_le (F := fun n => callN C n u.1 u.2.1 u.2.2.1) (fun n r h => callN_mono n h) hm n
    · have := mono_le (F := fun n => callN C n u.1 u.2.1 u.2.2.1) (fun n r h => callN_mono n h) (hn u hu) m
      rw [Nat.add_comm] at this
      exact this

/-- a call is what the body makes of it -/
theorem callL_of {args : List AVal} {sg : Sig} {q : List Ent × Sig} (hp : C.prim f = none) (h : evF C (callL C) iterL f args sg = some q) : callL C f args sg = some q := by
  obtain ⟨T, h1, h2⟩ := evF_use h
  obtain ⟨n, hn⟩ := callL_meets h1
  refine lim_of (n := n + 1) (fun n r h => callN_mono n h) ?_
  rw [callN, hp]
  exact h2 _ hn

theorem callL_prim {F : List AVal → Sig → Option (List Ent × Sig)} {args : List AVal} {sg : Sig} {q : List Ent × Sig} (hp : C.prim f = some F) (h : F args sg = some q) : callL C f args sg = some q := by
  refine lim_of (n := 1) (fun n r h => callN_mono n h) ?_
  rw [callN, hp]
  exact h

end
end Go.Aev

end
section
/- A table of what calls give. -/
namespace Go.Aev

/-- what the table says is what the calls give -/
def TblOk (C : Cfg) (tbl : CallFn) : Prop := ∀ f a s r, tbl f a s = some r → callL C f a s = some r

theorem tbl_body {C : Cfg} {tbl : CallFn} (h : TblOk C tbl) {f : FuncId} {args : List AVal} {sg : Sig} {q : List Ent × Sig} (hp : C.prim f = none) (he : evF C tbl iterL f args sg = some q) : callL C f args sg = some q := by
  obtain ⟨T, h1, h2⟩ := evF_use he
  exact callL_of hp (h2 _ fun t ht => h _ _ _ _ (h1 t ht))

theorem tbl_none (C : Cfg) : TblOk C fun _ _ _ => none := fun f a s r h => by cases h

/-- a table with one function more -/
def add (t : CallFn) (f : FuncId) (S : List AVal → Sig → Option (List Ent × Sig)) : CallFn := fun g a s => cond (g == f) (S a s) (t g a s)

theorem add_ok {C : Cfg} {t : CallFn} {f : FuncId} {S : List AVal → Sig → Option (List Ent × Sig)} (h : TblOk C t) (hp : C.prim f = none) (hS : ∀ a s r, S a s = some r → evF C t iterL f a s = some r) : TblOk C (add t f S) := by
  intro g a s r hr
  unfold add at hr
  cases hg : (g == f) with
  | true =>
    rw [hg, cond_true] at hr
    have : g = f := by simpa using hg
    subst this
    exact tbl_body h hp (hS a s r hr)
  | false =>
    rw [hg, cond_false] at hr
    exact h g a s r hr

theorem add_prim {C : Cfg} {t : CallFn} {f : FuncId} {S : List AVal → Sig → Option (List Ent × Sig)} (h : TblOk C t) (hp : C.prim f = some S) : TblOk C (add t f S) := by
  intro g a s r hr
  unfold add at hr
  cases hg : (g == f) with
  | true =>
    rw [hg, cond_true] at hr
    have : g = f := by simpa using hg
    subst this
    exact callL_prim hp hr
  | false =>
    rw [hg, cond_false] at hr
    exact h g a s r hr

end Go.Aev

end
section
/- Functions of the library whose contracts are known. -/
namespace Go.Aev
open Go.RowKit

theorem after_below {C : Cfg} {w w' : World} {M : Nat → Nat} (hd : C.dr = false) (h : Below w.heap.size w w') : After C w w' M M [] [] :=
  ⟨h.os, h.tape, ⟨h.output, fun e => by rw [hd] at e; cases e⟩, h.size, fun b hb _ => h.block b hb, fun _ _ => rfl, ⟨[], by simp, fun b hb => by cases hb⟩, fun i b k h => by simp at h⟩

/-- a plain value that a call gives, behind which memory is as it was, below its end -/
theorem callAt_one {C : Cfg} (hd : C.dr = false) {f : FuncId} {F : List AVal → Sig → Option (List Ent × Sig)}
    (h0 : ∀ args sg rs sg', F args sg = some (rs, sg') → sg = []) (h : ∀ args sg rs sg', F args sg = some (rs, sg') → ∀ (w : World) (M : Nat → Nat) (vs : Array Value), args.length = vs.size → (∀ (i : Nat) x v, args[i]? = some x → vs[i]? = some v → RepB w M [] x v) → GlobOk C w M →
      sg' = [] ∧ ∃ d, rs = [(.dat d, .none)] ∧ Calls C.P f vs w fun e w' => ∃ v, e = .returned v ∧ Below w.heap.size w w' ∧ Rep w' M d v) : CallAt C f F := by
  intro args sg rs sg' hF w M sm vs hl hr hs hg
  have hsl : sg = [] := h0 args sg rs sg' hF
  subst hsl
  have hsm : sm = [] := List.eq_nil_of_length_eq_zero hs.1.symm
  subst hsm
  obtain ⟨rfl, d, rfl, hc⟩ := h args [] rs sg' hF w M vs hl hr hg
  refine hc.mono fun e w' ⟨v, he, hb, hd'⟩ => ⟨v, M, [], he, after_below hd hb, sigOk_nil C w' M, [v], rfl, rfl, fun i e u he hu => ?_, fun i j e e' t t' n n' he he' h h' => ?_⟩
  · cases i with
    | zero =>
      simp only [List.getElem?_cons_zero, Option.some.injEq] at he hu
      subst he hu
      exact ⟨.dat hd', trivial⟩
    | succ i => simp at he
  · cases i with
    | zero =>
      simp only [List.getElem?_cons_zero, Option.some.injEq] at he
      subst he
      cases h
    | succ i => simp at he

end Go.Aev

end
section
/- What a row's condition reads, as the evaluator's data. -/
namespace Go.Aev

section
variable {H : Type} {enc : TypeId × Value → H} {P : Program} {w : World} {base : Nat} {spare : Nat → Bool} {held : Bool} {M : Nat → Nat}

/-- fields that lie side by side -/
def datFs (P : Program) (rec : TypeId → DataW H → Option (List Dat)) : List Field → Nat → List (DataW H) → Option (List Dat)
  | [], _, [] => some []
  | f :: fs, off, d :: ds => cond (f.offset == off) ((rec f.type d).bind fun a => cond (a.length == P.cellsOf f.type) ((datFs P rec fs (off + P.cellsOf f.type) ds).map fun r => a ++ r) none) none
  | _, _, _ => none

/-- the cells of a thing of a type -/
def datW (P : Program) : Nat → TypeId → DataW H → Option (List Dat)
  | 0, _, _ => none
  | n + 1, t, d =>
    match P.underlying t, d with
    | some .bool, .lit (.bool b) => some [.bool b]
    | some (.int k), .lit (.int k' x) => cond (k == k') (some [.int k x]) none
    | some .string, .lit (.string l) => some [.str ⟨l.toArray⟩]
    | some (.slice _), .nil => some [.sl []]
    | some (.struct fs), .agg ds => (datFs P (datW P n) fs.toList 0 ds).bind fun r => cond (r.length == P.cellsOf t) (some r) none
    | some (.array _ e), .agg ds => (ds.mapM (datW P n e)).bind fun r => cond ((r.all fun x => x.length == P.cellsOf e) && (P.cellsOf t == ds.length * P.cellsOf e)) (some r.flatten) none
    | _, _ => none

/-- cells that represent data -/
def RepL (w : World) (M : Nat → Nat) (ds : List Dat) (cs : List Value) : Prop := ds.length = cs.length ∧ ∀ (j : Nat) x v, ds[j]? = some x → cs[j]? = some v → Rep w M x v

theorem RepL.append {a b : List Dat} {c d : List Value} (h : RepL w M a c) (k : RepL w M b d) : RepL w M (a ++ b) (c ++ d) := by
  refine ⟨by simp [h.1, k.1], fun j x v hx hv => ?_⟩
  rw [List.getElem?_append] at hx hv
  rw [← h.1] at hv
  split at hx
  · rename_i hlt
    rw [if_pos hlt] at hv
    exact h.2 j x v hx hv
  · rename_i hlt
    rw [if_neg hlt] at hv
    exact k.2 _ x v hx hv

theorem repL_one {d : Dat} {v : Value} (h : Rep w M d v) : RepL w M [d] [v] := by
  refine ⟨rfl, fun j x u hx hu => ?_⟩
  cases j with
  | zero =>
    simp only [List.getElem?_cons_zero, Option.some.injEq] at hx hu
    subst hx hu
    exact h
  | succ j => simp at hx

theorem take_drop_split (l : List Value) (a b : Nat) : (l.drop a) = (l.drop a).take b ++ l.drop (a + b) := by
  rw [← List.drop_drop, List.take_append_drop]

theorem datFs_rep {rec : TypeId → DataW H → Option (List Dat)} {tr : TypeId → List Value → Option (DataW H × List MemPlace)} (hrec : ∀ t cs d p ds, tr t cs = some (d, p) → rec t d = some ds → RepL w M ds cs) (cs : List Value) :
    ∀ (fs : List Field) (off : Nat) (xs : List (DataW H × List MemPlace)) (ds : List Dat), fs.mapM (fun f => tr f.type ((cs.drop f.offset).take (P.cellsOf f.type))) = some xs → datFs P rec fs off (xs.map (·.1)) = some ds →
      ∃ n, RepL w M ds ((cs.drop off).take n) ∧ ds.length = n
  | [], off, xs, ds, h, hd => by
    cases h
    cases hd
    exact ⟨0, ⟨by simp, fun j x v hx _ => by simp at hx⟩, rfl⟩
  | f :: fs, off, xs, ds, h, hd => by
    simp only [List.mapM_cons, Option.bind_eq_bind, Option.bind_eq_some_iff, Option.pure_def, Option.some.injEq] at h
    obtain ⟨x, hx, ys, hys, rfl⟩ := h
    obtain ⟨d, p⟩ := x
    simp only [List.map_cons, datFs] at hd
    obtain ⟨h1, h2⟩ := cond_any hd
    have h1 : f.offset = off := by simpa using h1
    subst h1
    rw [Option.bind_eq_some_iff] at h2
    obtain ⟨a, ha, h3⟩ := h2
    obtain ⟨h4, h5⟩ := cond_any h3
    have h4 : a.length = P.cellsOf f.type := by simpa using h4
    rw [Option.map_eq_some_iff] at h5
    obtain ⟨r, hr, rfl⟩ := h5
    obtain ⟨n, k1, k2⟩ := datFs_rep hrec cs fs _ ys r hys hr
    have k0 := hrec _ _ d p a hx ha
    refine ⟨P.cellsOf f.type + n, ?_, by simp [h4, k2]⟩
    have e : (cs.drop f.offset).take (P.cellsOf f.type + n) = (cs.drop f.offset).take (P.cellsOf f.type) ++ (cs.drop (f.offset + P.cellsOf f.type)).take n := by
      rw [List.take_add, List.drop_drop]
    rw [e]
    exact k0.append k1

theorem datArr_rep {rec : DataW H → Option (List Dat)} {tr : List Value → Option (DataW H × List MemPlace)} {c : Nat} (hrec : ∀ cs d p ds, tr cs = some (d, p) → rec d = some ds → RepL w M ds cs) (cs : List Value) :
    ∀ (n k : Nat) (xs : List (DataW H × List MemPlace)) (r : List (List Dat)), (List.range' k n).mapM (fun i => tr ((cs.drop (i * c)).take c)) = some xs → (xs.map (·.1)).mapM rec = some r → (∀ x ∈ r, x.length = c) →
      RepL w M r.flatten ((cs.drop (k * c)).take (n * c)) ∧ r.flatten.length = n * c
  | 0, k, xs, r, h, hr, _ => by
    cases h
    cases hr
    exact ⟨⟨by simp, fun j x v hx _ => by simp at hx⟩, by simp⟩
  | n + 1, k, xs, r, h, hr, hl => by
    simp only [List.range'_succ, List.mapM_cons, Option.bind_eq_bind, Option.bind_eq_some_iff, Option.pure_def, Option.some.injEq] at h
    obtain ⟨x, hx, ys, hys, rfl⟩ := h
    obtain ⟨d, p⟩ := x
    simp only [List.map_cons, List.mapM_cons, Option.bind_eq_bind, Option.bind_eq_some_iff, Option.pure_def, Option.some.injEq] at hr
    obtain ⟨a, ha, r', hr', rfl⟩ := hr
    obtain ⟨k1, k2⟩ := datArr_rep hrec cs n (k + 1) ys r' hys hr' fun x hx => hl x (by simp [hx])
    have k0 := hrec _ d p a hx ha
    have hac : a.length = c := hl a (by simp)
    refine ⟨?_, by simp only [List.flatten_cons, List.length_append]; rw [k2, hac, Nat.succ_mul]; omega⟩
    have e : (cs.drop (k * c)).take ((n + 1) * c) = (cs.drop (k * c)).take c ++ (cs.drop ((k + 1) * c)).take (n * c) := by
      rw [show (n + 1) * c = c + n * c by rw [Nat.succ_mul]; omega, List.take_add, List.drop_drop, show k * c + c = (k + 1) * c by rw [Nat.succ_mul]]
    rw [e, List.flatten_cons]
    exact k0.append k1

theorem datW_rep : ∀ (n fuel : Nat) (t : TypeId) (cs : List Value) (d : DataW H) (p : List MemPlace) (ds : List Dat), DataW.trod enc P w base spare held fuel t cs = some (d, p) → datW P n t d = some ds → RepL w M ds cs
  | 0, _, _, _, _, _, _, _, hd => by cases hd
  | n + 1, 0, _, _, _, _, _, h, _ => by cases h
  | n + 1, fuel + 1, t, cs, d, p, ds, h, hd => by
    have ih := datW_rep n fuel
    unfold datW at hd
    split at hd
    · rename_i b ht
      obtain ⟨h1, h2⟩ : cs = [.bool b] ∧ True := by
        rw [DataW.trod.eq_def] at h
        simp only [ht] at h
        split at h <;> simp_all
      subst h1
      cases hd
      exact repL_one (.bool b)
    · rename_i k k' x ht
      obtain ⟨h3, h4⟩ := cond_any hd
      have h3 : k = k' := by simpa using h3
      subst h3
      cases h4
      obtain ⟨x', h5, h6, _⟩ := DataW.trod_int ht h
      subst h5
      cases h6
      exact repL_one (.int _ _)
    · rename_i l ht
      obtain ⟨x, h1, h2, _⟩ := DataW.trod_string ht h
      subst h1
      cases h2
      cases hd
      exact repL_one (.str _)
    · rename_i e ht
      have h1 : cs = [.slice none 0 0] := by
        rcases Go.Deep.open_slice ht h with ⟨h1, _⟩ | ⟨a, len, cap, m, n, D, Pl, _, _, _, _, _, h2, _⟩
        · exact h1
        · cases h2
      subst h1
      cases hd
      exact repL_one .nilS
    · rename_i fs ds' ht
      simp only [DataW.trod, ht] at h
      split at h
      · rename_i hl
        rw [Option.map_eq_some_iff] at h
        obtain ⟨xs, h1, h2⟩ := h
        cases h2
        rw [Option.bind_eq_some_iff] at hd
        obtain ⟨r, hr, h3⟩ := hd
        obtain ⟨h4, h5⟩ := cond_any h3
        cases h5
        have h4 : ds.length = P.cellsOf t := by simpa using h4
        obtain ⟨n', k1, k2⟩ := datFs_rep (tr := DataW.trod enc P w base spare held fuel) (fun t cs d p ds h hd => ih t cs d p ds h hd) cs _ _ xs ds h1 hr
        have hn : n' = cs.length := by omega
        rw [hn, List.drop_zero, List.take_length] at k1
        exact k1
      · cases h
    · rename_i m e ds' ht
      simp only [DataW.trod, ht] at h
      split at h
      · rename_i hl
        rw [Option.map_eq_some_iff] at h
        obtain ⟨xs, h1, h2⟩ := h
        cases h2
        rw [Option.bind_eq_some_iff] at hd
        obtain ⟨r, hr, h3⟩ := hd
        obtain ⟨h4, h5⟩ := cond_any h3
        cases h5
        simp only [Bool.and_eq_true, List.all_eq_true, beq_iff_eq] at h4
        rw [List.range_eq_range'] at h1
        obtain ⟨k1, k2⟩ := datArr_rep (c := P.cellsOf e) (tr := DataW.trod enc P w base spare held fuel e) (fun cs d p ds h hd => ih e cs d p ds h hd) cs m 0 xs r h1 hr h4.1
        have hxl : xs.length = m := by simpa using Go.Lib.mapM_length h1
        have h6 : m * P.cellsOf e = cs.length := by rw [hl, h4.2]; simp [hxl]
        rw [h6, Nat.zero_mul, List.drop_zero, List.take_length] at k1
        exact k1
      · cases h
    · cases hd

/-- the sizes of the blocks: whatever lies there lies below them -/
def sizes (w : World) (b : Nat) : Nat :=
  match w.heap[b]? with
  | some (.cells c _ _) => c.size
  | _ => 0

theorem below_sizes {a : Addr} {v : Value} (h : w.cell? a = some v) : a.off < sizes w a.block := by
  unfold World.cell? at h
  unfold sizes
  split at h
  · rename_i c t fr hb
    rw [hb]
    split at h
    · cases h
    · exact (Array.getElem?_eq_some_iff.1 h).1
  · cases h

/-- a table of the program's that holds what its text lays -/
theorem imm_of_var {name : String} {g : Nat} {t : TypeId} {fuel n : Nat} {cs : Array Value} {d : DataW H} {p : List MemPlace} {ds : List Dat} (hg : P.globalNamed name = some g) (hv : w.var? P name = some cs)
    (hd : DataW.trod enc P w base spare held fuel t cs.toList = some (d, p)) (hw : datW P n t d = some ds) : RepB w (sizes w) [] (.imm ds) (.pointer (some ⟨g, 0, none⟩)) := by
  obtain ⟨h1, h2⟩ := datW_rep (M := sizes w) n fuel t cs.toList d p ds hd hw
  have hc := fun i => World.var?_cell hg hv i
  have hlen : ds.length = cs.size := by simpa using h1
  refine .imm (fun i => cs.getD i undef) rfl (fun k hk => ?_) fun k x hx => ?_
  · have hlt : k < cs.size := by omega
    have e : (Addr.add ⟨g, 0, none⟩ k) = ⟨g, k, none⟩ := by rw [add_eq rfl]; simp
    have h3 : w.cell? (Addr.add ⟨g, 0, none⟩ k) = some (cs.getD k undef) := by
      rw [e, hc k, Array.getElem?_eq_getElem hlt]
      simp [Array.getD_eq_getD_getElem?, hlt]
    refine ⟨h3, ?_⟩
    have := below_sizes h3
    rw [add_off, add_block] at this
    exact this
  · have hlt : k < cs.size := by rw [← hlen]; exact (List.getElem?_eq_some_iff.1 hx).1
    refine h2 k x _ hx ?_
    simp [Array.getD_eq_getD_getElem?, hlt]

end
end Go.Aev

end
section
/- What a row says behind a call that turned nothing of what was there. -/
namespace Go.Aev
open Go.ChangeShapes Go.WideShapes Go.RowKit

theorem post_of_below {H : Type} {enc : TypeId × Value → H} {P : Program} {f : Func} {s : ChangeSpec} {apart fresh handsOn again : Bool} {W W' : World} {args : Array Value} {v : Value} {ds gs : List (DataW H)} {before pa pv : List MemPlace}
    (hW : DataW.Whole enc P f.params.toList s.vars apart W args.toList ds gs before) (hB : Below W.heap.size W W')
    (hres : ∀ (b : Nat) (sp : Nat → Bool) (hd : Bool), DataW.TrodAll enc P W' b sp hd f.resultTypes.toList (v.resultList f.resultTypes.size) (s.fn H (ds ++ gs)).results [])
    (hargs : ∀ sp : Nat → Bool, (∀ p ∈ before, sp p.block = true) → DataW.TrodAll enc P W' 0 sp true f.params.toList args.toList (s.fn H (ds ++ gs)).args pa)
    (hvars : ∀ sp : Nat → Bool, (∀ p ∈ before, sp p.block = true) → DataW.TrodVars enc P W' sp s.vars (s.fn H (ds ++ gs)).vars pv)
    (hps : before = pa ++ pv)
    (hok : ∀ (j : Nat) (t : TypeId) (r : Value), f.resultTypes[j]? = some t → (v.resultList f.resultTypes.size)[j]? = some r → Value.okWide P W' .any 0 t r) :
    s.post enc P f apart fresh handsOn again W args v W' := by
  have hold : ∀ p ∈ before, (fun b => decide (b < W.heap.size)) p.block = true := fun p hp => by simpa using hW.lt p hp
  have hlt := fun p hp => hW.lt p hp
  refine ⟨ds, gs, before, [], pa, pv, hW, hres _ _ _, hargs _ hold, hvars _ hold, World.keptBut_mono (fun p hp => ⟨hp, ?_⟩) (hB.frame (· ∈ before)), fun _ => ?_⟩
  · rw [hps, List.mem_append] at hp
    exact Or.inr hp
  · obtain ⟨_, _, _, _, _, hz, hn⟩ := hW
    refine ⟨hok, _, _, ([] ++ pa) ++ pv, ⟨[] ++ pa, pv, trodAll_append (hargs _ (fun _ _ => rfl)) (hres _ _ _), hvars _ (fun _ _ => rfl), rfl, ?_, ?_⟩, ?_⟩
    · intro b off hp
      have hp' : MemPlace.cell b off ∈ before := by rw [hps]; simpa using hp
      have hb := hlt _ hp'
      have e : W'.frozen? ⟨b, off, none⟩ = W.frozen? ⟨b, off, none⟩ := by
        unfold World.frozen?
        rw [show W'.heap[b]? = W.heap[b]? from hB.block b hb]
      rw [e]
      exact hz b off hp'
    · intro ha
      have := hn ha
      rw [hps] at this
      simpa using this
    · intro p hp _
      rw [hps]
      simpa using hp

theorem below_after {W W' : World} {M M' : Nat → Nat} {sm' : List Nat} {C : Cfg} (h : After C W W' M M' [] sm') : Below W.heap.size W W' := ⟨h.os, h.tape, h.output.1, h.size, fun k hk => h.block k hk touch_nil⟩

/-- a call that answers one bool -/
theorem calls_bool {C : Cfg} (hC : CfgOk C) (hp : ∀ f F, C.prim f = some F → CallAt C f F) {f : FuncId} (ho : C.ownArg f = none) {args : List AVal} {b : Bool} (h : callL C f args [] = some ([(.dat (.bool b), .none)], [])) {W : World} {vs : Array Value} (hl : args.length = vs.size)
    (hr : ∀ (i : Nat) x v, args[i]? = some x → vs[i]? = some v → RepB W (sizes W) [] x v) (hg : GlobOk C W (sizes W)) : Calls C.P f vs W fun e W' => e = .returned (.bool b) ∧ Below W.heap.size W W' := by
  refine ((callL_ok hC hp).plain f ho args [] _ [] h W (sizes W) [] vs hl hr (sigOk_nil _ _ _) hg).mono fun e W' ⟨v, M', sm', he, hA, _, us, hv, hlen, hrr, _⟩ => ?_
  match us, hlen, hv, hrr with
  | [u], _, hv, hrr =>
    have := (hrr 0 _ u rfl rfl).1
    cases this with
    | dat hd =>
      cases hd
      exact ⟨by rw [he, show v = _ from hv], below_after hA⟩

end Go.Aev

end
section
/- The evaluator once more, with tables of calls and of loops whose answers are handed on. -/
namespace Go.Aev

abbrev CallK := FuncId → List AVal → Sig → (γ : Type) → (List Ent × Sig → Option γ) → Option γ
/-- (the second list: what the loop only reads) -/
abbrev LoopK := FuncId → Nat → List AVal → Vars → (γ : Type) → (Ex × Vars → Option γ) → Option γ

/-- a text by its bytes -/
def bs (l : List Nat) : ByteArray := ⟨(l.map UInt8.ofNat).toArray⟩

/-- loops, each with the block that it lies in -/
def loopsOf : Nat → Code → List (Nat × Code)
  | b, .loop x => (b, x) :: loopsOf b x
  | b, .seq x y => loopsOf b x ++ loopsOf b y
  | b, .cond _ x y => loopsOf b x ++ loopsOf b y
  | _, .block i x => loopsOf i x
  | b, .scope x => loopsOf b x
  | _, _ => []

def findB (b : Nat) : List (Nat × Code) → Code
  | [] => .skip
  | p :: l => cond (p.1 == b) p.2 (findB b l)

def bodyOf (P : Program) (f : FuncId) (b : Nat) : Code :=
  match (P.funcs[f]?).bind (·.body) with
  | some x => findB b (loopsOf 0 x)
  | none => .skip

section
variable {β : Type}

def callAK (C : Cfg) (tk : CallK) (ns : Bool) (sg : Sig) (dst : Option Nat) (g : FuncId) (args : List AVal) (K : Dl → Option β) : Option β :=
  match C.P.funcs[g]?, dst with
  | some fn, some d =>
    cond (!handsAll args || fn.body.isNone || (C.ownArg g).isSome) none <|
    cond (plainL args && fn.resultTypes.toList.all (plainT C.P))
      (tk g (args.map stripA) [] β fun r => decVals C.P fn.resultTypes.toList r.1 fun rs =>
        match C.ownRes g with
        | some (i, n) => cond (hasMark r.1 i n) (K (.clr (8 * d) (joinE (markAt i (.id (8 * d) n) rs)))) none
        | none => K (.val (joinE rs)))
      (cond (ns || (C.ownRes g).isSome) none (tk g (args.map stripA) sg β fun r => decVals C.P fn.resultTypes.toList r.1 fun rs => K (.sig r.2 (joinE rs))))
  | _, _ => none

def ownCallAK (C : Cfg) (tk : CallK) (g : FuncId) (z : Nat) (x : Ent) (rest : List AVal) (K : Dl → Option β) : Option β :=
  match C.P.funcs[g]?, x with
  | some fn, (.dat (.sl es), .id t n) =>
    cond (handsAll rest && plainL rest && fn.body.isSome && n == z && !strictO t) (tk g (.dat (.sl es) :: rest.map stripA) [] β fun r => ownRes1 z r.1 fun fs => K (.clr t (.dat (.sl fs), .id t z))) none
  | _, _ => none

def evDK (C : Cfg) (tk : CallK) (f : FuncId) (ns : Bool) (ev : Operand → Ent) (lo : List (Option (List Ent))) (sg : Sig) (o : Oper) (K : Dl → Option β) : Option β :=
  match o.op with
  | .call c =>
    (match c.callee with
     | .value fo => (match nilGrowOf C fo c.args.toList with
       | some p => growA o.dst p.1 (ev p.2).1 K
       | none => match ownArgOf C fo c.args.toList with
       | some p => ownCallAK C tk p.1.1 p.1.2 (ev p.2.1) (p.2.2.map fun x => (ev x).1) K
       | none => match (ev fo).1 with
       | .clo (.func g) first caps => cond (isFuncO fo || (C.ownRes g).isNone) (callAK C tk ns sg o.dst g (first ++ c.args.toList.map (fun x => (ev x).1) ++ caps) K) none
       | _ => none)
     | _ => evD C (fun _ _ _ => none) f ns ev lo sg o K)
  | _ => evD C (fun _ _ _ => none) f ns ev lo sg o K

def evOpK (C : Cfg) (tk : CallK) (f : FuncId) (ns : Bool) (s : St) (o : Oper) (K : St → Option β) : Option β :=
  evDK C tk f ns (s.ev C) s.lo s.sg o fun d => K (d.apply s o.dst)

def evOperK (C : Cfg) (tk : CallK) (f : FuncId) (ns : Bool) (ops : Array Oper) (s : St) (o : Oper) (K : St → Option β) : Option β :=
  match o.guard with
  | none => evOpK C tk f ns s o K
  | some (j, want) =>
    match (ops[j]?).bind (·.dst) with
    | none => K (s.put o.dst (.undef, .none))
    | some d =>
      match s.tm[d]? with
      | some (.dat (.bool b), w) =>
        cond b
          (let s := s.put (some d) (.dat (.bool true), w)
           cond want (evOpK C tk f ns s o K) (K (s.put o.dst (.undef, .none))))
          (let s := s.put (some d) (.dat (.bool false), w)
           cond want (K (s.put o.dst (.undef, .none))) (evOpK C tk f ns s o K))
      | some (.undef, _) => K (s.put o.dst (.undef, .none))
      | _ => none

def evOpsK (C : Cfg) (tk : CallK) (f : FuncId) (ops : Array Oper) (ns : Nat → Bool) : Nat → List Oper → St → (St → Option β) → Option β
  | _, [], s, K => K s
  | i, o :: r, s, K => evOperK C tk f (ns i) ops s o fun s => evOpsK C tk f ops ns (i + 1) r s K

def evRegK (C : Cfg) (tk : CallK) (f : FuncId) (id : Nat) (ops : Array Oper) (draw : Bool) (s : St) (K : St → Option β) : Option β :=
  let l := ops.toList
  let b := befores l
  cond (draw && !drawOk C f ops b) none <|
  cond (C.join f id)
    (match l.getLast? with
     | some o => (match o.dst with
       | some d => cond (l.all fun o => opQuiet C o.op)
          ((evOpsK C tk f ops (fun _ => true) 0 l s (fun s => some (s.tm.getD d (.junk, .none)))).bind fun e =>
            decVal C.P o.type (e.1, .none) fun e => K { s with tm := (junkT l s.tm).set d e }) none
       | none => none)
     | none => none)
    (evOpsK C tk f ops (fun i => draw && noSigs C f l b i) 0 l s fun s => cond (draw && !drawDyn ops b s) none (K s))
end

/-- what a loop only reads -/
def ctxOf (L : LoopCfg) (s : St) : List AVal := L.keeps.map fun k => stripA (s.tm.getD k (.undef, .none)).1

def lookN (i : Nat) : List Nat → List AVal → Option AVal
  | k :: ks, a :: ls => cond (k == i) (some a) (lookN i ks ls)
  | _, _ => none

def ctxT (keeps : List Nat) (ctx : List AVal) : Nat → Nat → List Ent
  | _, 0 => []
  | i, n + 1 => (match lookN i keeps ctx with
    | some a => (a, .none)
    | none => (.junk, .none)) :: ctxT keeps ctx (i + 1) n

def ntmpsOf (P : Program) (f : FuncId) : Nat := match P.funcs[f]? with
  | some fn => fn.ntmps
  | none => 0

/-- the same as unpackV, of what is read alone -/
def unpackC {β : Type} (C : Cfg) (L : LoopCfg) (n : Nat) (ctx : List AVal) (v : Vars) (K : St → Option β) : Option β :=
  unpackM C.P (ctxT L.keeps ctx 0 n) L.mods v.1 fun tm l => unpackB C.P (List.replicate n none) L.boxes l fun lo => K { tm := tm, lo := lo, sg := v.2 }

theorem ctxT_keepT (keeps : List Nat) (f : Nat → AVal) : ∀ (tm : List Ent) (i : Nat), (∀ j e, tm[j]? = some e → f (i + j) = stripA e.1) → keepT keeps i tm = ctxT keeps (keeps.map f) i tm.length
  | [], i, _ => rfl
  | e :: r, i, h => by
    have h0 : f i = stripA e.1 := h 0 e rfl
    have hl : ∀ ks : List Nat, lookN i ks (ks.map f) = cond (ks.contains i) (some (f i)) none := by
      intro ks
      induction ks with
      | nil => rfl
      | cons k ks ih =>
        simp only [List.map_cons, lookN, ih, List.contains_cons]
        cases hk : (k == i) with
        | true =>
          have : k = i := by simpa using hk
          subst this
          simp
        | false =>
          have : (i == k) = false := by
            rw [beq_eq_false_iff_ne] at hk ⊢
            exact fun h => hk h.symm
          simp [this]
    simp only [keepT, List.length_cons, ctxT]
    rw [hl, ctxT_keepT keeps f r (i + 1) fun j e' he => by rw [Nat.add_assoc, Nat.add_comm 1 j]; exact h (j + 1) e' (by simpa using he)]
    cases keeps.contains i <;> simp [h0]

theorem unpackC_eq {β : Type} {C : Cfg} {L : LoopCfg} {n : Nat} {s : St} (h1 : s.tm.length = n) (h2 : s.lo.length = n) (v : Vars) (K : St → Option β) : unpackC C L n (ctxOf L s) v K = unpackV C L s v K := by
  unfold unpackC unpackV ctxOf
  rw [ctxT_keepT L.keeps (fun k => stripA (s.tm.getD k (.undef, .none)).1) s.tm 0 (fun j e he => by rw [Nat.zero_add]; simp only [List.getD, he]; rfl), h1]
  have : (s.lo.map fun _ => (none : Option (List Ent))) = List.replicate n none := by
    rw [← h2]
    induction s.lo with
    | nil => rfl
    | cons a l ih => simp [List.replicate_succ, ih]
  rw [this]

def evCK (C : Cfg) (tk : CallK) (lk : LoopK) (f : FuncId) : Code → Nat → (β : Type) → St → (Ex → St → Option β) → Option β
  | .skip, _, _, s, K => K .normal s
  | .label _, _, _, s, K => K .normal s
  | .region id ops draw, _, _, s, K => evRegK C tk f id ops draw s (K .normal)
  | .seq x y, b, β, s, K => evCK C tk lk f x b β s fun e s => match e with
    | .normal => evCK C tk lk f y b β s K
    | e => K e s
  | .cond c x y, b, β, s, K => (match (s.ev C c).1 with
    | .dat (.bool t) => cond t (evCK C tk lk f x b β s K) (evCK C tk lk f y b β s K)
    | _ => none)
  | .block id x, _, β, s, K => evCK C tk lk f x id β s fun e s => match e with
    | .exit j => cond (j == id) (K .normal s) (K (.exit j) s)
    | e => K e s
  | .loop x, b, β, s, K =>
    let L := C.loop f b
    cond (keepsOk C f b L s x && (s.tm.length == ntmpsOf C.P f && s.lo.length == ntmpsOf C.P f))
      (packV L s fun v => lk f b (ctxOf L s) v β fun r => unpackV C L s r.2 fun s => onEx r.1 L.exits fun e => K e s)
      none
  | .scope x, b, β, s, K => evCK C tk lk f x b β s K
  | .exit id, _, _, s, K => K (.exit id) s
  | .ret, _, _, s, K => K .ret s
  | _, _, _, _, _ => none

def evFK (C : Cfg) (tk : CallK) (lk : LoopK) (f : FuncId) (args : List AVal) (sg : Sig) (γ : Type) (K : List Ent × Sig → Option γ) : Option γ :=
  match C.P.funcs[f]? with
  | none => none
  | some fn =>
    match fn.body with
    | none => none
    | some body =>
      cond (handsAll args && nodupN ((loopsOf 0 body).map (·.1)))
      (evCK C tk lk f body 0 γ { tm := firstOwn (C.ownArg f) (args.map (stripA · , .none)) ++ List.replicate (fn.ntmps - args.length) (.undef, .none), lo := List.replicate fn.ntmps none, sg := sg } fun e s =>
        cond (match e with
          | .exit _ => true
          | _ => false) none <|
        (resultsA C s fn.results.toList fun rs =>
          cond (handsAll (rs.map (·.1)))
            (outsOwn (C.ownRes f) rs fun rs => some (rs, cond (fn.resultTypes.toList.all (plainT C.P) && plainL (rs.map (·.1))) (s.sg.take sg.length) s.sg)) none).bind K)
      none

/-- one round of a loop -/
def roundK (C : Cfg) (tk : CallK) (lk : LoopK) (f : FuncId) (b : Nat) (s : List AVal) (v : Vars) (γ : Type) (K : Ex × Vars → Option γ) : Option γ :=
  unpackC C (C.loop f b) (ntmpsOf C.P f) s v fun s => evCK C tk lk f (bodyOf C.P f b) b γ s fun e s => packV (C.loop f b) s fun v => K (e, v)

/-- the same, told by what calls give -/
noncomputable def roundL (C : Cfg) (f : FuncId) (b : Nat) (s : List AVal) : Vars → Option (Ex × Vars) :=
  fun v => unpackC C (C.loop f b) (ntmpsOf C.P f) s v fun s => evC C (callL C) iterL f (bodyOf C.P f b) b (Ex × Vars) s fun e s => packV (C.loop f b) s fun v => some (e, v)

/-- what follows a round -/
def contL {γ : Type} (S : Vars → Option γ) (K : Ex × Vars → Option γ) (r : Ex × Vars) : Option γ :=
  match r.1 with
  | .normal => S r.2
  | _ => K r

def fuel : Nat := 18446744073709551616

/-- what the tables say is what comes -/
structure TabOk (C : Cfg) (tk : CallK) (lk : LoopK) : Prop where
  call : ∀ f a s γ K q, tk f a s γ K = some q → ∃ r, callL C f a s = some r ∧ K r = some q
  loop : ∀ f b s v γ K q, lk f b s v γ K = some q → ∃ r, iterL (roundL C f b s) v = some r ∧ K r = some q

section
variable {β : Type} {r : β} {C : Cfg} {tk : CallK} {lk : LoopK} {f : FuncId}

theorem decVals_all {P : Program} {ts : List TypeId} {es : List Ent} {F : List Ent → Option β} (h : decVals P ts es F = some r) : ∃ es', F es' = some r ∧ ∀ (γ : Type) (G : List Ent → Option γ), decVals P ts es G = G es' := by
  obtain ⟨e, h1, h2⟩ := decVals_any (γ := List Ent) h
  refine ⟨e, h2, fun γ G => ?_⟩
  obtain ⟨e', h3, h4⟩ := decVals_any (γ := γ) (h1 some)
  cases h4
  exact h3 G

theorem decVal_all {P : Program} {t : TypeId} {e : Ent} {F : Ent → Option β} (h : decVal P t e F = some r) : ∃ e', F e' = some r ∧ ∀ (γ : Type) (G : Ent → Option γ), decVal P t e G = G e' := by
  obtain ⟨e, h1, h2⟩ := decVal_any (γ := Ent) h
  refine ⟨e, h2, fun γ G => ?_⟩
  obtain ⟨e', h3, h4⟩ := decVal_any (γ := γ) (h1 some)
  cases h4
  exact h3 G

theorem callAK_snd (hT : TabOk C tk lk) {ns : Bool} {sg : Sig} {dst : Option Nat} {g : FuncId} {args : List AVal} {K : Dl → Option β} (h : callAK C tk ns sg dst g args K = some r) :
    ∃ d, K d = some r ∧ ∀ (γ : Type) (G : Dl → Option γ), callA C (callL C) ns sg dst g args G = G d := by
  unfold callAK at h
  split at h
  · rename_i fn dt hfn
    cases hh : (!handsAll args || fn.body.isNone || (C.ownArg g).isSome) with
    | true => rw [hh] at h; cases h
    | false =>
      rw [hh, cond_false] at h
      cases hpl : (plainL args && fn.resultTypes.toList.all (plainT C.P)) with
      | true =>
        rw [hpl, cond_true] at h
        obtain ⟨res, hc, h⟩ := hT.call _ _ _ _ _ _ h
        obtain ⟨rs, h1, h2⟩ := decVals_all h
        cases how : C.ownRes g with
        | none =>
          simp only [how] at h1
          refine ⟨_, h1, fun γ G => ?_⟩
          simp only [callA, hfn, hh, hpl, hc, how, cond_true, cond_false, Option.bind_some, h2]
        | some p =>
          obtain ⟨i, n⟩ := p
          simp only [how] at h1
          obtain ⟨h3, h4⟩ := cond_any h1
          refine ⟨_, h4, fun γ G => ?_⟩
          simp only [callA, hfn, hh, hpl, hc, how, cond_true, cond_false, Option.bind_some, h2, h3]
      | false =>
        rw [hpl, cond_false] at h
        cases hns : (ns || (C.ownRes g).isSome) with
        | true => rw [hns] at h; cases h
        | false =>
          rw [hns, cond_false] at h
          obtain ⟨res, hc, h⟩ := hT.call _ _ _ _ _ _ h
          obtain ⟨rs, h1, h2⟩ := decVals_all h
          refine ⟨_, h1, fun γ G => ?_⟩
          simp only [callA, hfn, hh, hpl, hns, hc, cond_false, Option.bind_some, h2]
  · cases h

theorem ownCallAK_snd (hT : TabOk C tk lk) {g : FuncId} {z : Nat} {x : Ent} {rest : List AVal} {K : Dl → Option β} (h : ownCallAK C tk g z x rest K = some r) :
    ∃ d, K d = some r ∧ ∀ (γ : Type) (G : Dl → Option γ), ownCallA C (callL C) g z x rest G = G d := by
  unfold ownCallAK at h
  split at h
  · rename_i fn es t n hfn
    obtain ⟨h1, h2⟩ := cond_any h
    obtain ⟨res, hc, h3⟩ := hT.call _ _ _ _ _ _ h2
    obtain ⟨fs, u, h4, h5⟩ := ownRes1_some h3
    refine ⟨_, h5, fun γ G => ?_⟩
    simp only [ownCallA, hfn, h1, cond_true, hc, Option.bind_some, h4, ownRes1, beq_self_eq_true]
  · cases h

theorem evDK_snd (hT : TabOk C tk lk) {ns : Bool} {ev : Operand → Ent} {lo : List (Option (List Ent))} {sg : Sig} {o : Oper} {K : Dl → Option β} (h : evDK C tk f ns ev lo sg o K = some r) :
    ∃ d, K d = some r ∧ ∀ (γ : Type) (G : Dl → Option γ), evD C (callL C) f ns ev lo sg o G = G d := by
  have plain : ∀ (h : evD C (fun _ _ _ => none) f ns ev lo sg o K = some r), (∀ (γ : Type) (G : Dl → Option γ), evD C (callL C) f ns ev lo sg o G = evD C (fun _ _ _ => none) f ns ev lo sg o G) →
      ∃ d, K d = some r ∧ ∀ (γ : Type) (G : Dl → Option γ), evD C (callL C) f ns ev lo sg o G = G d := by
    intro h he
    obtain ⟨d, _, h2, h3⟩ := evD_all h
    exact ⟨d, h2, fun γ G => by rw [he]; exact h3 γ G⟩
  unfold evDK at h
  cases hop : o.op
  case call c =>
    simp only [hop] at h
    split at h
    · rename_i fo hfo
      split at h
      · rename_i p hp
        obtain ⟨d, n, h1, h2, h3, h4, h5, h6⟩ := growA_some h
        refine ⟨_, h6, fun γ G => ?_⟩
        unfold evD
        simp only [hop, hfo, hp, growA, h1, h2, decide_eq_true h3, decide_eq_true h4, decide_eq_true h5, Bool.and_self, cond_true]
      rename_i hp
      split at h
      · rename_i p hp2
        obtain ⟨d, h1, h2⟩ := ownCallAK_snd hT h
        refine ⟨d, h1, fun γ G => ?_⟩
        unfold evD
        simp only [hop, hfo, hp, hp2]
        exact h2 γ G
      rename_i hp2
      split at h
      · rename_i g first caps hev
        obtain ⟨h1, h2⟩ := cond_any h
        obtain ⟨d, h3, h4⟩ := callAK_snd hT h2
        refine ⟨d, h3, fun γ G => ?_⟩
        unfold evD
        simp only [hop, hfo, hp, hp2, hev, h1, cond_true]
        exact h4 γ G
      · cases h
    · rename_i hne
      refine plain h fun γ G => ?_
      unfold evD
      simp only [hop]
      split
      · rfl
      · rfl
      · rfl
      · rfl
      · rename_i fo hfo
        exact absurd hfo (hne fo)
      · rfl
  all_goals
    simp only [hop] at h
    exact plain h fun γ G => by unfold evD; simp only [hop]

theorem evOpK_snd (hT : TabOk C tk lk) {ns : Bool} {s : St} {o : Oper} {K : St → Option β} (h : evOpK C tk f ns s o K = some r) :
    ∃ s', K s' = some r ∧ ∀ (γ : Type) (G : St → Option γ), evOp C (callL C) f ns s o G = G s' := by
  obtain ⟨d, h1, h2⟩ := evDK_snd hT h
  exact ⟨_, h1, fun γ G => h2 γ _⟩

theorem evOperK_snd (hT : TabOk C tk lk) {ns : Bool} {ops : Array Oper} {s : St} {o : Oper} {K : St → Option β} (h : evOperK C tk f ns ops s o K = some r) :
    ∃ s', K s' = some r ∧ ∀ (γ : Type) (G : St → Option γ), evOper C (callL C) f ns ops s o G = G s' := by
  unfold evOperK at h
  split at h
  · rename_i hg
    obtain ⟨s', h1, h2⟩ := evOpK_snd hT h
    exact ⟨s', h1, fun γ G => by simp only [evOper, hg]; exact h2 γ G⟩
  · rename_i j want hg
    split at h
    · rename_i hj
      exact ⟨_, h, fun γ G => by simp only [evOper, hg, hj]⟩
    · rename_i d hj
      split at h
      · rename_i b ow hd
        cases b with
        | true =>
          simp only [cond_true] at h
          cases want with
          | true =>
            simp only [cond_true] at h
            obtain ⟨s', h1, h2⟩ := evOpK_snd hT h
            exact ⟨s', h1, fun γ G => by simp only [evOper, hg, hj, hd, cond_true]; exact h2 γ G⟩
          | false => exact ⟨_, h, fun γ G => by simp only [evOper, hg, hj, hd, cond_true, cond_false]⟩
        | false =>
          simp only [cond_false] at h
          cases want with
          | true => exact ⟨_, h, fun γ G => by simp only [evOper, hg, hj, hd, cond_true, cond_false]⟩
          | false =>
            simp only [cond_false] at h
            obtain ⟨s', h1, h2⟩ := evOpK_snd hT h
            exact ⟨s', h1, fun γ G => by simp only [evOper, hg, hj, hd, cond_false]; exact h2 γ G⟩
      · rename_i hd
        exact ⟨_, h, fun γ G => by simp only [evOper, hg, hj, hd]⟩
      · cases h

theorem evOpsK_snd (hT : TabOk C tk lk) {ops : Array Oper} {ns : Nat → Bool} : ∀ {l : List Oper} {i : Nat} {s : St} {β : Type} {K : St → Option β} {r : β}, evOpsK C tk f ops ns i l s K = some r →
    ∃ s', K s' = some r ∧ ∀ (γ : Type) (G : St → Option γ), evOps C (callL C) f ops ns i l s G = G s'
  | [], i, s, β, K, r, h => ⟨s, h, fun _ _ => rfl⟩
  | o :: l, i, s, β, K, r, h => by
    simp only [evOpsK] at h
    obtain ⟨s1, h1, h2⟩ := evOperK_snd hT h
    obtain ⟨s2, h3, h4⟩ := evOpsK_snd hT h1
    exact ⟨s2, h3, fun γ G => by simp only [evOps]; rw [h2, h4]⟩

theorem evRegK_snd (hT : TabOk C tk lk) {id : Nat} {ops : Array Oper} {draw : Bool} {s : St} {K : St → Option β} (h : evRegK C tk f id ops draw s K = some r) :
    ∃ s', K s' = some r ∧ ∀ (γ : Type) (G : St → Option γ), evReg C (callL C) f id ops draw s G = G s' := by
  unfold evRegK at h
  dsimp only at h
  cases hd : (draw && !drawOk C f ops (befores ops.toList)) with
  | true => rw [hd] at h; cases h
  | false =>
    rw [hd, cond_false] at h
    cases hj : C.join f id with
    | true =>
      rw [hj, cond_true] at h
      split at h
      · rename_i o hlast
        split at h
        · rename_i d hdst
          obtain ⟨hq, h⟩ := cond_any h
          rw [Option.bind_eq_some_iff] at h
          obtain ⟨e, h1, h2⟩ := h
          obtain ⟨s1, h3, h4⟩ := evOpsK_snd hT h1
          cases h3
          obtain ⟨e', h5, h6⟩ := decVal_all h2
          refine ⟨_, h5, fun γ G => ?_⟩
          unfold evReg
          dsimp only
          simp only [hd, hj, cond_false, cond_true, hlast, hdst, hq]
          rw [h4, Option.bind_some, h6]
        · cases h
      · cases h
    | false =>
      rw [hj, cond_false] at h
      obtain ⟨s1, h3, h4⟩ := evOpsK_snd hT h
      cases hy : (draw && !drawDyn ops (befores ops.toList) s1) with
      | true => rw [hy] at h3; cases h3
      | false =>
        rw [hy, cond_false] at h3
        refine ⟨s1, h3, fun γ G => ?_⟩
        unfold evReg
        dsimp only
        simp only [hd, hj, cond_false]
        rw [h4]
        simp only [hy, cond_false]

theorem evCK_snd (hT : TabOk C tk lk) : ∀ (c : Code) {b : Nat} {β : Type} {s : St} {K : Ex → St → Option β} {r : β}, (∀ p ∈ loopsOf b c, bodyOf C.P f p.1 = p.2) → evCK C tk lk f c b β s K = some r →
    ∃ ex s', K ex s' = some r ∧ ∀ (γ : Type) (G : Ex → St → Option γ), evC C (callL C) iterL f c b γ s G = G ex s' := by
  intro c
  induction c with
  | skip => intro b β s K r _ h; exact ⟨.normal, s, h, fun _ _ => rfl⟩
  | label l => intro b β s K r _ h; exact ⟨.normal, s, h, fun _ _ => rfl⟩
  | exit id => intro b β s K r _ h; exact ⟨.exit id, s, h, fun _ _ => rfl⟩
  | ret => intro b β s K r _ h; exact ⟨.ret, s, h, fun _ _ => rfl⟩
  | region id ops draw =>
    intro b β s K r _ h
    simp only [evCK] at h
    obtain ⟨s', h1, h2⟩ := evRegK_snd hT h
    exact ⟨.normal, s', h1, fun γ G => h2 γ _⟩
  | seq x y ihx ihy =>
    intro b β s K r hl h
    simp only [evCK] at h
    have hl1 : ∀ p ∈ loopsOf b x, bodyOf C.P f p.1 = p.2 := fun p hp => hl p (by simp [loopsOf, hp])
    have hl2 : ∀ p ∈ loopsOf b y, bodyOf C.P f p.1 = p.2 := fun p hp => hl p (by simp [loopsOf, hp])
    obtain ⟨ex, s1, h1, h2⟩ := ihx hl1 h
    cases ex with
    | normal =>
      obtain ⟨ex', s2, h5, h6⟩ := ihy hl2 h1
      refine ⟨ex', s2, h5, fun γ G => ?_⟩
      simp only [evC]; rw [h2]; exact h6 γ G
    | exit i => exact ⟨.exit i, s1, h1, fun γ G => by simp only [evC]; rw [h2]⟩
    | ret => exact ⟨.ret, s1, h1, fun γ G => by simp only [evC]; rw [h2]⟩
  | cond c x y ihx ihy =>
    intro b β s K r hl h
    simp only [evCK] at h
    have hl1 : ∀ p ∈ loopsOf b x, bodyOf C.P f p.1 = p.2 := fun p hp => hl p (by simp [loopsOf, hp])
    have hl2 : ∀ p ∈ loopsOf b y, bodyOf C.P f p.1 = p.2 := fun p hp => hl p (by simp [loopsOf, hp])
    split at h
    · rename_i t ht
      cases t with
      | true =>
        obtain ⟨ex, s1, h1, h2⟩ := ihx hl1 h
        exact ⟨ex, s1, h1, fun γ G => by simp only [evC, ht, cond_true]; exact h2 γ G⟩
      | false =>
        obtain ⟨ex, s1, h1, h2⟩ := ihy hl2 h
        exact ⟨ex, s1, h1, fun γ G => by simp only [evC, ht, cond_false]; exact h2 γ G⟩
    · cases h
  | scope x ih =>
    intro b β s K r hl h
    simp only [evCK] at h
    obtain ⟨ex, s1, h1, h2⟩ := ih (fun p hp => hl p (by simpa [loopsOf] using hp)) h
    exact ⟨ex, s1, h1, fun γ G => by simp only [evC]; exact h2 γ G⟩
  | block id x ih =>
    intro b β s K r hl h
    simp only [evCK] at h
    obtain ⟨ex, s1, h1, h2⟩ := ih hl h
    cases ex with
    | normal => exact ⟨.normal, s1, h1, fun γ G => by simp only [evC]; rw [h2]⟩
    | ret => exact ⟨.ret, s1, h1, fun γ G => by simp only [evC]; rw [h2]⟩
    | exit j =>
      simp only at h1
      cases hj : (j == id) with
      | true =>
        rw [hj, cond_true] at h1
        exact ⟨.normal, s1, h1, fun γ G => by simp only [evC]; rw [h2]; simp only [hj, cond_true]⟩
      | false =>
        rw [hj, cond_false] at h1
        exact ⟨.exit j, s1, h1, fun γ G => by simp only [evC]; rw [h2]; simp only [hj, cond_false]⟩
  | loop x ih =>
    intro b β s K r hl h
    simp only [evCK] at h
    obtain ⟨h1, h2⟩ := cond_any h
    obtain ⟨v, h3, h4⟩ := packV_all h2
    obtain ⟨⟨e, v'⟩, h5, h6⟩ := hT.loop _ _ _ _ _ _ _ h4
    have hb : bodyOf C.P f b = x := hl (b, x) (by simp [loopsOf])
    simp only [Bool.and_eq_true, beq_iff_eq] at h1
    have hun : ∀ (δ : Type) (v : Vars) (G : St → Option δ), unpackC C (C.loop f b) (ntmpsOf C.P f) (ctxOf (C.loop f b) s) v G = unpackV C (C.loop f b) s v G := fun δ v G => unpackC_eq h1.2.1 h1.2.2 v G
    unfold roundL at h5
    rw [hb] at h5
    simp only [hun] at h5
    obtain ⟨s1, h7, h8⟩ := unpackV_all h6
    obtain ⟨h9, h10⟩ := onEx_all (s := s1) h8
    refine ⟨e, s1, h9, fun γ G => ?_⟩
    simp only [evC, h1.1, cond_true]
    rw [h3, h5, Option.bind_some, h7, h10]
  | _ => intro b β s K r _ h; simp only [evCK, reduceCtorEq] at h

theorem nodupN_mem : ∀ {l : List (Nat × Code)}, nodupN (l.map (·.1)) = true → ∀ p ∈ l, findB p.1 l = p.2
  | [], _, p, hp => by cases hp
  | a :: l, h, p, hp => by
    simp only [List.map_cons, nodupN, Bool.and_eq_true, Bool.not_eq_true', List.contains_eq_mem, decide_eq_false_iff_not] at h
    rcases List.mem_cons.1 hp with rfl | hp
    · simp [findB]
    · have : (a.1 == p.1) = false := by
        rw [beq_eq_false_iff_ne]
        intro he
        exact h.1 (he ▸ List.mem_map.2 ⟨p, hp, rfl⟩)
      rw [findB, this, cond_false]
      exact nodupN_mem h.2 p hp

theorem evFK_snd (hT : TabOk C tk lk) {args : List AVal} {sg : Sig} {γ : Type} {K : List Ent × Sig → Option γ} {q : γ} (h : evFK C tk lk f args sg γ K = some q) :
    ∃ r, evF C (callL C) iterL f args sg = some r ∧ K r = some q := by
  unfold evFK at h
  split at h
  · cases h
  · rename_i fn hfn
    split at h
    · cases h
    · rename_i body hbody
      obtain ⟨hh, h⟩ := cond_any h
      rw [Bool.and_eq_true] at hh
      have hbo : ∀ p ∈ loopsOf 0 body, bodyOf C.P f p.1 = p.2 := by
        intro p hp
        unfold bodyOf
        rw [hfn, Option.bind_some, hbody]
        exact nodupN_mem hh.2 p hp
      obtain ⟨ex, s', h1, h2⟩ := evCK_snd hT body hbo h
      unfold evF
      simp only [hfn, hbody, hh.1, cond_true, h2]
      cases ex with
      | exit i => cases h1
      | normal =>
        obtain ⟨r, h3, h4⟩ := Option.bind_eq_some_iff.1 h1
        exact ⟨r, h3, h4⟩
      | ret =>
        obtain ⟨r, h3, h4⟩ := Option.bind_eq_some_iff.1 h1
        exact ⟨r, h3, h4⟩

/-- a function more -/
def addK (t : CallK) (f : FuncId) (S : List AVal → Sig → (γ : Type) → (List Ent × Sig → Option γ) → Option γ) : CallK := fun g a s γ K => cond (g == f) (S a s γ K) (t g a s γ K)
/-- a loop more -/
def addL (t : LoopK) (f : FuncId) (b : Nat) (S : List AVal → Vars → (γ : Type) → (Ex × Vars → Option γ) → Option γ) : LoopK := fun g c s v γ K => cond (g == f && c == b) (S s v γ K) (t g c s v γ K)

theorem tab_none (C : Cfg) : TabOk C (fun _ _ _ _ _ => none) (fun _ _ _ _ _ _ => none) := ⟨fun f a s γ K q h => (by cases h), fun f b s v γ K q h => (by cases h)⟩

abbrev Ent3 := List AVal → Sig → (γ : Type) → (List Ent × Sig → Option γ) → Option γ
abbrev Loop3 := List AVal → Vars → (γ : Type) → (Ex × Vars → Option γ) → Option γ
def none3 : Ent3 := fun _ _ _ _ => none
def noneL3 : Loop3 := fun _ _ _ _ => none
def noneK : CallK := fun _ _ _ _ _ => none
def noneL : LoopK := fun _ _ _ _ _ _ => none

/-- one entry of a table of calls -/
def EntOk (C : Cfg) (f : FuncId) (S : List AVal → Sig → (γ : Type) → (List Ent × Sig → Option γ) → Option γ) : Prop :=
  ∀ a s γ K q, S a s γ K = some q → ∃ r, callL C f a s = some r ∧ K r = some q
def EntOkL (C : Cfg) (f : FuncId) (b : Nat) (S : List AVal → Vars → (γ : Type) → (Ex × Vars → Option γ) → Option γ) : Prop :=
  ∀ s v γ K q, S s v γ K = some q → ∃ r, iterL (roundL C f b s) v = some r ∧ K r = some q

theorem ent_none (C : Cfg) (f : FuncId) : EntOk C f none3 := fun a s γ K q h => by cases h
theorem entL_none (C : Cfg) (f : FuncId) (b : Nat) : EntOkL C f b noneL3 := fun a s γ K q h => by cases h
theorem tab_nil (C : Cfg) : TabOk C noneK noneL := tab_none C

theorem ent_body (hT : TabOk C tk lk) {S : List AVal → Sig → (γ : Type) → (List Ent × Sig → Option γ) → Option γ} (hp : C.prim f = none)
    (hS : ∀ a s γ K q, S a s γ K = some q → evFK C tk lk f a s γ K = some q) : EntOk C f S := by
  intro a s γ K q h
  obtain ⟨r, h1, h2⟩ := evFK_snd hT (hS a s γ K q h)
  exact ⟨r, callL_of hp h1, h2⟩

theorem ent_prim {F : List AVal → Sig → Option (List Ent × Sig)} {S : List AVal → Sig → (γ : Type) → (List Ent × Sig → Option γ) → Option γ} (hp : C.prim f = some F)
    (hS : ∀ a s γ K q, S a s γ K = some q → (F a s).bind K = some q) : EntOk C f S := by
  intro a s γ K q h
  have := hS a s γ K q h
  rw [Option.bind_eq_some_iff] at this
  obtain ⟨r, h1, h2⟩ := this
  exact ⟨r, callL_prim hp h1, h2⟩

theorem tab_call (hT : TabOk C tk lk) {S : List AVal → Sig → (γ : Type) → (List Ent × Sig → Option γ) → Option γ} (h : EntOk C f S) : TabOk C (addK tk f S) lk := by
  refine ⟨fun g a s γ K q hq => ?_, hT.loop⟩
  unfold addK at hq
  cases hg : (g == f) with
  | true =>
    rw [hg, cond_true] at hq
    have : g = f := by simpa using hg
    subst this
    exact h a s γ K q hq
  | false =>
    rw [hg, cond_false] at hq
    exact hT.call g a s γ K q hq

theorem tab_loop (hT : TabOk C tk lk) {b : Nat} {S : List AVal → Vars → (γ : Type) → (Ex × Vars → Option γ) → Option γ} (h : EntOkL C f b S) : TabOk C tk (addL lk f b S) := by
  refine ⟨hT.call, fun g c s v γ K q hq => ?_⟩
  unfold addL at hq
  cases hg : (g == f && c == b) with
  | true =>
    rw [hg, cond_true] at hq
    simp only [Bool.and_eq_true, beq_iff_eq] at hg
    obtain ⟨rfl, rfl⟩ := hg
    exact h s v γ K q hq
  | false =>
    rw [hg, cond_false] at hq
    exact hT.loop g c s v γ K q hq

theorem unpackC_any {γ : Type} {L : LoopCfg} {n : Nat} {ctx : List AVal} {v : Vars} {K : St → Option β} (h : unpackC C L n ctx v K = some r) : ∃ s1, (∀ G : St → Option γ, unpackC C L n ctx v G = G s1) ∧ K s1 = some r := by
  unfold unpackC at h
  obtain ⟨tm, l, h1, h2, _⟩ := unpackM_any (γ := γ) h
  obtain ⟨lo, h3, h4, _⟩ := unpackB_any (γ := γ) h2
  exact ⟨_, fun G => by simp only [unpackC]; rw [h1, h3], h4⟩
theorem unpackC_all {L : LoopCfg} {n : Nat} {ctx : List AVal} {v : Vars} {K : St → Option β} (h : unpackC C L n ctx v K = some r) : ∃ s1, (∀ (γ : Type) (G : St → Option γ), unpackC C L n ctx v G = G s1) ∧ K s1 = some r := by
  obtain ⟨s1, h1, h2⟩ := unpackC_any (γ := St) h
  refine ⟨s1, fun γ G => ?_, h2⟩
  obtain ⟨v', h3, h4⟩ := unpackC_any (γ := γ) (h1 some)
  cases h4
  exact h3 G

theorem roundK_snd (hT : TabOk C tk lk) {b : Nat} {s : List AVal} {v : Vars} {γ : Type} {K : Ex × Vars → Option γ} {q : γ} (hb : ∀ p ∈ loopsOf b (bodyOf C.P f b), bodyOf C.P f p.1 = p.2) (h : roundK C tk lk f b s v γ K = some q) :
    ∃ r, roundL C f b s v = some r ∧ K r = some q := by
  unfold roundK at h
  obtain ⟨s1, h1, h2⟩ := unpackC_all h
  obtain ⟨ex, s2, h3, h4⟩ := evCK_snd hT _ hb h2
  obtain ⟨v', h5, h6⟩ := packV_all h3
  exact ⟨(ex, v'), by unfold roundL; rw [h1, h4, h5], h6⟩

/-- the loops within a loop are those that the function's code names -/
def loopsIn (P : Program) (f : FuncId) (b : Nat) : Bool :=
  match (P.funcs[f]?).bind (·.body) with
  | some x => nodupN ((loopsOf 0 x).map (·.1)) && (loopsOf 0 x).any (·.1 == b)
  | none => false

theorem loopsOf_sub : ∀ (c : Code) {i b : Nat} {x : Code}, (b, x) ∈ loopsOf i c → ∀ p ∈ loopsOf b x, p ∈ loopsOf i c := by
  intro c
  induction c with
  | loop y ih =>
    intro i b x h p hp
    simp only [loopsOf, List.mem_cons, Prod.mk.injEq] at h ⊢
    rcases h with ⟨rfl, rfl⟩ | h
    · exact Or.inr hp
    · exact Or.inr (ih h p hp)
  | seq x y ihx ihy =>
    intro i b z h p hp
    simp only [loopsOf, List.mem_append] at h ⊢
    rcases h with h | h
    · exact Or.inl (ihx h p hp)
    · exact Or.inr (ihy h p hp)
  | cond c x y ihx ihy =>
    intro i b z h p hp
    simp only [loopsOf, List.mem_append] at h ⊢
    rcases h with h | h
    · exact Or.inl (ihx h p hp)
    · exact Or.inr (ihy h p hp)
  | block id x ih =>
    intro i b z h p hp
    simp only [loopsOf] at h ⊢
    exact ih h p hp
  | scope x ih =>
    intro i b z h p hp
    simp only [loopsOf] at h ⊢
    exact ih h p hp
  | _ => intro i b x h; simp [loopsOf] at h

theorem loopsIn_ok {P : Program} {b : Nat} (h : loopsIn P f b = true) : ∀ p ∈ loopsOf b (bodyOf P f b), bodyOf P f p.1 = p.2 := by
  unfold loopsIn at h
  cases hx : (P.funcs[f]?).bind (·.body) with
  | none => rw [hx] at h; cases h
  | some x =>
    rw [hx] at h
    simp only [Bool.and_eq_true, List.any_eq_true, beq_iff_eq] at h
    obtain ⟨hn, ⟨b', y⟩, hy, rfl⟩ := h
    have e : ∀ c, bodyOf P f c = findB c (loopsOf 0 x) := fun c => by unfold bodyOf; rw [hx]
    intro p hp
    simp only [e] at hp ⊢
    rw [nodupN_mem hn _ hy] at hp
    exact nodupN_mem hn p (loopsOf_sub x hy p hp)

theorem body_ok (hT : TabOk C tk lk) (hp : C.prim f = none) {a : List AVal} {s : Sig} {γ : Type} {K : List Ent × Sig → Option γ} {q : γ} (h : evFK C tk lk f a s γ K = some q) : ∃ r, callL C f a s = some r ∧ K r = some q := by
  obtain ⟨r, h1, h2⟩ := evFK_snd hT h
  exact ⟨r, callL_of hp h1, h2⟩

/-- a loop, by rounds: so many at most -/
theorem entL_rounds (hT : TabOk C tk lk) {b : Nat} (hb : loopsIn C.P f b = true) {S : Nat → List AVal → Vars → (γ : Type) → (Ex × Vars → Option γ) → Option γ}
    (h0 : ∀ s v γ K, S 0 s v γ K = none)
    (hS : ∀ n s v γ K q, S (n + 1) s v γ K = some q → roundK C tk lk f b s v γ (contL (fun v => S n s v γ K) K) = some q) : ∀ n, EntOkL C f b (S n)
  | 0 => fun s v γ K q h => by rw [h0] at h; cases h
  | n + 1 => fun s v γ K q h => by
    obtain ⟨⟨e, v'⟩, h1, h2⟩ := roundK_snd hT (loopsIn_ok hb) (hS n s v γ K q h)
    cases e with
    | normal =>
      obtain ⟨r, h3, h4⟩ := entL_rounds hT hb h0 hS n s v' γ K q h2
      exact ⟨r, by rw [iterL_step h1]; exact h3, h4⟩
    | exit i => exact ⟨_, by rw [iterL_step h1], h2⟩
    | ret => exact ⟨_, by rw [iterL_step h1], h2⟩

/-- fuel that depends on what comes in -/
theorem ent_fuel {S : Nat → List AVal → Sig → (γ : Type) → (List Ent × Sig → Option γ) → Option γ} (h : ∀ n, EntOk C f (S n)) (m : List AVal → Sig → Nat) : EntOk C f (fun a s γ K => S (m a s) a s γ K) :=
  fun a s γ K q hq => h (m a s) a s γ K q hq
theorem entL_fuel {b : Nat} {S : Nat → List AVal → Vars → (γ : Type) → (Ex × Vars → Option γ) → Option γ} (h : ∀ n, EntOkL C f b (S n)) (m : List AVal → Vars → Nat) : EntOkL C f b (fun s v γ K => S (m s v) s v γ K) :=
  fun s v γ K q hq => h (m s v) s v γ K q hq

end
end Go.Aev

end
section
/- The arguments that a row hands, opened by their types; what is read again behind a call that turned nothing. -/
namespace Go.Aev
open Go.ChangeShapes Go.WideShapes Go.RowKit

/-- fields one behind the other -/
def hasFs (rec : TypeId → List Dat → Prop) : List Field → List Dat → Prop
  | [], ds => ds = []
  | f :: fs, ds => ∃ a b, ds = a ++ b ∧ rec f.type a ∧ hasFs rec fs b

/-- what data of a type look like -/
def hasT (P : Program) : Nat → TypeId → List Dat → Prop
  | 0, _, _ => False
  | n + 1, t, ds => match P.underlying t with
    | some .bool => ∃ b, ds = [.bool b]
    | some (.int k) => ∃ x, ds = [.int k x] ∧ (Lit.int k x).wf = true
    | some .string => ∃ s, ds = [.str s] ∧ s.size ≤ maxLen
    | some (.slice e) => ∃ es, ds = [.sl es] ∧ es.length ≤ maxLen ∧ ∀ c, c ∈ es → hasT P n e c
    | some (.struct fs) => hasFs (hasT P n) fs.toList ds
    | _ => False

/-- the fields lie side by side; where they end -/
def sideBy (P : Program) : List Field → Nat → Option Nat
  | [], off => some off
  | f :: fs, off => cond (f.offset == off) (sideBy P fs (off + P.cellsOf f.type)) none

/-- types that lead to none but these -/
def simpleSet (P : Program) (l : List TypeId) : Bool := l.all fun t => match P.underlying t with
  | some .bool | some (.int _) | some .string => P.cellsOf t == 1
  | some (.slice e) => l.contains e && decide (0 < P.cellsOf e) && (P.cellsOf t == 1)
  | some (.struct fs) => (fs.toList.all fun f => l.contains f.type) && (sideBy P fs.toList 0 == some (P.cellsOf t))
  | _ => false

section
variable {H : Type} {enc : TypeId × Value → H} {P : Program} {w : World} {base : Nat} {spare : Nat → Bool} {held : Bool} {M : Nat → Nat}

theorem open_fs {rec : TypeId → List Dat → Prop} {tr : TypeId → List Value → Option (DataW H × List MemPlace)} {cs : List Value} {l : List TypeId}
    (hrec : ∀ t cs x, t ∈ l → tr t cs = some x → ∃ ds, rec t ds ∧ RepL w M ds cs) :
    ∀ (fs : List Field) (off n : Nat) (xs : List (DataW H × List MemPlace)), (∀ f ∈ fs, f.type ∈ l) → sideBy P fs off = some n → n = cs.length → (∀ f ∈ fs, ∀ c, rec f.type c → c.length = P.cellsOf f.type ∨ True) →
      fs.mapM (fun f => tr f.type ((cs.drop f.offset).take (P.cellsOf f.type))) = some xs → ∃ ds, hasFs rec fs ds ∧ RepL w M ds (cs.drop off)
  | [], off, n, xs, _, hs, hn, _, _ => by
    cases hs
    refine ⟨[], rfl, ?_⟩
    rw [hn, List.drop_length]
    exact ⟨rfl, fun j x v hx _ => by simp at hx⟩
  | f :: fs, off, n, xs, hl, hs, hn, hc, h => by
    simp only [List.mapM_cons, Option.bind_eq_bind, Option.bind_eq_some_iff, Option.pure_def, Option.some.injEq] at h
    obtain ⟨x, hx, ys, hys, rfl⟩ := h
    simp only [sideBy] at hs
    obtain ⟨h1, h2⟩ := cond_any hs
    have h1 : f.offset = off := by simpa using h1
    subst h1
    obtain ⟨b, k1, k2⟩ := open_fs hrec fs _ n ys (fun g hg => hl g (by simp [hg])) h2 hn (fun _ _ _ _ => Or.inr trivial) hys
    obtain ⟨a, k3, k4⟩ := hrec _ _ _ (hl f (by simp)) hx
    refine ⟨a ++ b, ⟨a, b, rfl, k3, k1⟩, ?_⟩
    rw [take_drop_split cs f.offset (P.cellsOf f.type)]
    exact k4.append k2

/-- what a reading came through is data of the type, and these are represented -/
theorem open_trod {l : List TypeId} (hl : simpleSet P l = true) : ∀ (fuel : Nat) (t : TypeId) (cs : List Value) (x : DataW H × List MemPlace), t ∈ l → DataW.trod enc P w base (fun _ => true) held fuel t cs = some x →
    ∃ ds, hasT P fuel t ds ∧ RepL w (sizes w) ds cs
  | 0, t, cs, x, _, h => by simp [DataW.trod] at h
  | n + 1, t, cs, x, ht, h => by
    have ih := open_trod hl n
    have hone := List.all_eq_true.1 hl t ht
    unfold hasT
    split at hone
    · rename_i hu
      have : ∃ b, cs = [.bool b] := by
        rw [DataW.trod.eq_def] at h
        simp only [hu] at h
        split at h <;> simp_all
      obtain ⟨b, rfl⟩ := this
      exact ⟨[.bool b], ⟨b, rfl⟩, repL_one (.bool b)⟩
    · rename_i k hu
      obtain ⟨z, rfl, _, hw⟩ := DataW.trod_int hu h
      exact ⟨[.int k z], ⟨z, rfl, hw⟩, repL_one (.int k z)⟩
    · rename_i hu
      have : ∃ s : ByteArray, cs = [.string s] ∧ s.size ≤ maxLen := by
        rw [DataW.trod.eq_def] at h
        simp only [hu] at h
        split at h <;> simp_all
      obtain ⟨s, rfl, hs⟩ := this
      exact ⟨[.str s], ⟨s, rfl, hs⟩, repL_one (.str s)⟩
    · rename_i e hu
      simp only [Bool.and_eq_true, List.contains_iff_mem, decide_eq_true_eq] at hone
      obtain ⟨⟨he, hpos⟩, _⟩ := hone
      rcases DataW.trod_slice hu h with ⟨rfl, _⟩ | ⟨a, len, cap, elems, rest, n', hn', rfl, _, _, hlc, hcm, hel, hx, _, _⟩
      · exact ⟨[.sl []], ⟨[], rfl, by simp, fun c hc => by cases hc⟩, repL_one .nilS⟩
      · obtain rfl : n = n' := by omega
        -- each element
        have hex : ∀ i, ∃ ds : List Dat, i < len → hasT P n e ds ∧ ds.length = P.cellsOf e ∧ ∀ (j : Nat) d, ds[j]? = some d → ∃ v, w.cell? (a.add (i * P.cellsOf e + j)) = some v ∧ Rep w (sizes w) d v := by
          intro i
          by_cases hi : i < len
          · have h0 := hx i hi
            rw [List.getElem?_eq_getElem (by omega), Option.bind_eq_some_iff] at h0
            obtain ⟨cs', h1, h2⟩ := h0
            obtain ⟨_, hlen, hcell⟩ := World.cells?_some h1
            obtain ⟨ds, k1, k2⟩ := ih e cs' _ he h2
            refine ⟨ds, fun _ => ⟨k1, by rw [k2.1, hlen], fun j d hd => ?_⟩⟩
            have hj : j < cs'.length := by rw [← k2.1]; exact (List.getElem?_eq_some_iff.1 hd).1
            have := hcell j (by omega)
            rw [List.getElem?_eq_getElem hj, add_add] at this
            exact ⟨_, this, k2.2 j d _ hd (List.getElem?_eq_getElem hj)⟩
          · exact ⟨[], fun h => absurd h hi⟩
        obtain ⟨F, hF⟩ := Classical.axiomOfChoice hex
        refine ⟨[.sl ((List.range len).map F)], ⟨_, rfl, by simp; omega, fun c hc => ?_⟩, repL_one ?_⟩
        · obtain ⟨i, hi, rfl⟩ := List.mem_map.1 hc
          exact (hF i (by simpa using hi)).1
        · have hcell : ∀ k, k < len * P.cellsOf e → ∃ v, w.cell? (a.add k) = some v := by
            intro k hk
            have hdm : k / P.cellsOf e * P.cellsOf e + k % P.cellsOf e = k := by rw [Nat.mul_comm]; exact Nat.div_add_mod k _
            have hi : k / P.cellsOf e < len := Nat.div_lt_of_lt_mul (by rw [Nat.mul_comm]; exact hk)
            obtain ⟨_, h2, h3⟩ := hF _ hi
            have hlt : k % P.cellsOf e < (F (k / P.cellsOf e)).length := by rw [h2]; exact Nat.mod_lt _ hpos
            obtain ⟨v, hv, _⟩ := h3 _ _ (List.getElem?_eq_getElem hlt)
            rw [hdm] at hv
            exact ⟨v, hv⟩
          refine .sl (size := P.cellsOf e) (fun k => (w.cell? (a.add k)).getD undef) (by simp) hlc hcm (fun h0 => ?_) (fun c hc => ?_) (fun k hk => ?_) (fun i j c d hi hd => ?_)
          · obtain ⟨v, hv⟩ := hcell 0 (Nat.mul_pos h0 hpos)
            exact spot_of_cell (by simpa [Addr.add] using hv)
          · obtain ⟨i, hi, rfl⟩ := List.mem_map.1 hc
            exact (hF i (by simpa using hi)).2.1
          · obtain ⟨v, hv⟩ := hcell k hk
            refine ⟨by rw [hv]; rfl, ?_⟩
            have := below_sizes hv
            rw [add_off, add_block] at this
            exact this
          · rw [List.getElem?_map, Option.map_eq_some_iff] at hi
            obtain ⟨i', hi', rfl⟩ := hi
            have hir := (List.getElem?_eq_some_iff.1 hi')
            obtain ⟨hlt, rfl⟩ := hir
            have hlt' : i < len := by simpa using hlt
            simp only [List.getElem_range] at hd
            obtain ⟨v, hv, hr⟩ := (hF i hlt').2.2 j d hd
            rw [hv]
            exact hr
    · rename_i fs hu
      simp only [Bool.and_eq_true, List.all_eq_true, List.contains_iff_mem, beq_iff_eq] at hone
      obtain ⟨hf, hside⟩ := hone
      rw [DataW.trod.eq_def] at h
      simp only [hu] at h
      split at h
      · rename_i hlen
        rw [Option.map_eq_some_iff] at h
        obtain ⟨xs, h1, _⟩ := h
        obtain ⟨ds, k1, k2⟩ := open_fs (rec := hasT P n) (fun t cs x ht h => ih t cs x ht h) fs.toList 0 _ xs hf hside hlen.symm (fun _ _ _ _ => Or.inr trivial) h1
        rw [List.drop_zero] at k2
        exact ⟨ds, k1, k2⟩
      · cases h
    · cases hone

/-- an argument of a type -/
def argOf (P : Program) (t : TypeId) (ds : List Dat) : AVal := cond (isAggT P t) (.agg (ds.map fun d => (d, .none))) (match ds with
  | [d] => .dat d
  | _ => .junk)

theorem open_arg {l : List TypeId} (hl : simpleSet P l = true) {r : Reach} {b0 : Nat} {t : TypeId} {v : Value} {d : DataW H} {ps : List MemPlace} (ht : t ∈ l) (hval : Value.okWide P w r b0 t v)
    (h : DataW.Trod enc P w base (fun _ => true) held t v d ps) : ∃ n ds, hasT P n t ds ∧ RepB w (sizes w) [] (argOf P t ds) v := by
  obtain ⟨fuel, hf⟩ := h
  obtain ⟨ds, h1, h2⟩ := open_trod hl fuel t _ _ ht hf
  refine ⟨fuel, ds, h1, ?_⟩
  have hone := List.all_eq_true.1 hl t ht
  have cell : isAggT P t = false → v.cells = #[v] → ds.length = 1 → RepB w (sizes w) [] (argOf P t ds) v := by
    intro ha hv hd
    match ds, hd with
    | [d], _ =>
      unfold argOf
      rw [ha, cond_false]
      rw [hv] at h2
      exact .dat (h2.2 0 d v rfl rfl)
  cases fuel with
  | zero => simp [DataW.trod] at hf
  | succ n =>
    unfold hasT at h1
    unfold Value.okWide at hval
    split at hone
    · rename_i hu
      simp only [hu] at hval h1
      obtain ⟨b, rfl⟩ := h1
      refine cell (by simp [isAggT, hu]) ?_ rfl
      cases v <;> simp_all [Cell.okWide, Cell.ok, Value.cells]
    · rename_i k hu
      simp only [hu] at hval h1
      obtain ⟨b, rfl, _⟩ := h1
      refine cell (by simp [isAggT, hu]) ?_ rfl
      cases v <;> simp_all [Cell.okWide, Cell.ok, Value.cells]
    · rename_i hu
      simp only [hu] at hval h1
      obtain ⟨b, rfl, _⟩ := h1
      refine cell (by simp [isAggT, hu]) ?_ rfl
      cases v <;> simp_all [Cell.okWide, Cell.ok, Value.cells]
    · rename_i e hu
      simp only [hu] at hval h1
      obtain ⟨b, rfl, _⟩ := h1
      refine cell (by simp [isAggT, hu]) ?_ rfl
      cases v <;> simp_all [Cell.okWide, Cell.ok, Value.cells]
    · rename_i fs hu
      simp only [hu] at hval
      obtain ⟨cs, rfl, _⟩ := hval
      unfold argOf
      rw [show isAggT P t = true by simp [isAggT, hu], cond_true]
      have h2 : RepL w (sizes w) ds cs.toList := h2
      refine .agg (by simpa using h2.1) fun i c v hc hv => ?_
      rw [List.getElem?_map, Option.map_eq_some_iff] at hc
      obtain ⟨d, hd, rfl⟩ := hc
      exact ⟨h2.2 i d v hd (by simpa using hv), rfl⟩
    · cases hone

theorem same_below {w' : World} (hB : Below w.heap.size w w') {p : MemPlace} (h : p.block < w.heap.size) : w.sameAt w' p := by
  cases p with
  | cell b off =>
    show w'.cell? ⟨b, off, none⟩ = w.cell? ⟨b, off, none⟩
    unfold World.cell?
    rw [hB.block b h]
  | map b => exact hB.block b h

theorem trodAll_below {w' : World} (K : Kids P (· < P.types.size)) (hz : ∀ t e, t < P.types.size → P.underlying t = some (.slice e) → 0 < P.cellsOf e) (hB : Below w.heap.size w w') {sp : Nat → Bool} :
    ∀ {ts : List TypeId} {vs : List Value} {ds : List (DataW H)} {ps : List MemPlace}, (∀ t ∈ ts, t < P.types.size) → DataW.TrodAll enc P w base (fun _ => true) true ts vs ds ps → (∀ p ∈ ps, sp p.block = true) → (∀ p ∈ ps, p.block < w.heap.size) → DataW.TrodAll enc P w' base sp true ts vs ds ps
  | [], [], [], _, _, h, _, _ => h
  | _ :: _, _ :: _, _ :: _, _, hT, ⟨p, q, ⟨n, h1⟩, h2, e⟩, hs, hlt => by
    subst e
    refine ⟨p, q, DataW.Trod.respare K hz (hT _ (by simp)) ⟨n, DataW.trod_carry n _ _ _ h1 fun x hx => same_below hB (hlt x (by simp [hx]))⟩ (fun x hx => hs x (by simp [hx])), ?_, rfl⟩
    exact trodAll_below K hz hB (fun t ht => hT t (by simp [ht])) h2 (fun x hx => hs x (by simp [hx])) (fun x hx => hlt x (by simp [hx]))

/-- a law that answers true, and leaves its arguments avs they were -/
theorem contract_true {C : Cfg} (hC : CfgOk C) (hp : ∀ f F, C.prim f = some F → CallAt C f F) (K : Kids C.P (· < C.P.types.size)) (hz : ∀ t e, t < C.P.types.size → C.P.underlying t = some (.slice e) → 0 < C.P.cellsOf e)
    {f : FuncId} {fn : Func} {s : ChangeSpec} {tb : TypeId} {W : World} {vs : Array Value} {ds gs : List (DataW H)} {before : List MemPlace} {avs : List AVal}
    (hW : DataW.Whole enc C.P fn.params.toList s.vars false W vs.toList ds gs before) (hv : s.vars = []) (hT : ∀ t ∈ fn.params.toList, t < C.P.types.size)
    (hs : s.fn H (ds ++ gs) = { results := [.lit (.bool true)], args := ds, vars := [] }) (hrt : fn.resultTypes = #[tb]) (hb : C.P.underlying tb = some .bool)
    (ho : C.ownArg f = none) (h : callL C f avs [] = some ([(.dat (.bool true), .none)], [])) (hl : avs.length = vs.size) (hr : ∀ (i : Nat) x v, avs[i]? = some x → vs[i]? = some v → RepB W (sizes W) [] x v) (hg : GlobOk C W (sizes W)) :
    Calls C.P f vs W fun e W' => ∃ v, e = .returned v ∧ s.post enc C.P fn false true false false W vs v W' := by
  have hlt := fun p hp => hW.lt p hp
  obtain ⟨p, q, hA, hV, hpq, _, _⟩ := id hW
  rw [hv] at hV
  have hgs : gs = [] ∧ q = [] := trodVars_none hV
  obtain ⟨rfl, rfl⟩ := hgs
  rw [List.append_nil] at hpq
  subst hpq
  refine (calls_bool hC hp ho h hl hr hg).mono fun e W' ⟨he, hB⟩ => ?_
  subst he
  refine ⟨_, rfl, post_of_below (pa := before) (pv := []) hW hB (fun b sp hd => ?_) (fun sp hsp => ?_) (fun sp hsp => ?_) (by simp) ?_⟩
  · rw [hs, hrt]
    exact trodAll_cons_mk (shut_bool hb _) trodAll_mk0
  · rw [hs]
    exact trodAll_below K hz hB hT hA hsp hlt
  · rw [hs, hv]
    exact rfl
  · exact ok_one hrt rfl (okWide_bool_mk hb _)

end
end Go.Aev

end
section
/- The arguments that a row hands, opened by their types, with the reach of their texts. -/
namespace Go.Aev
open Go.ChangeShapes Go.WideShapes Go.RowKit

/-- .. no text of which is longer than B -/
def hasTB (P : Program) (B : Nat) : Nat → TypeId → List Dat → Prop
  | 0, _, _ => False
  | n + 1, t, ds => match P.underlying t with
    | some .bool => ∃ b, ds = [.bool b]
    | some (.int k) => ∃ x, ds = [.int k x] ∧ (Lit.int k x).wf = true
    | some .string => ∃ s, ds = [.str s] ∧ s.size ≤ B
    | some (.slice e) => ∃ es, ds = [.sl es] ∧ es.length ≤ maxLen ∧ ∀ c, c ∈ es → hasTB P B n e c
    | some (.struct fs) => hasFs (hasTB P B n) fs.toList ds
    | _ => False

mutual
/-- how long the texts in a datum are -/
def txt {H : Type} : DataW H → List Nat
  | .lit (.string b) => [b.length]
  | .slice es sp => txtAll es ++ txtAll sp
  | .agg ps => txtAll ps
  | _ => []
def txtAll {H : Type} : List (DataW H) → List Nat
  | [] => []
  | d :: r => txt d ++ txtAll r
end
section
variable {H : Type} {enc : TypeId × Value → H} {P : Program} {w : World} {base : Nat} {spare : Nat → Bool} {held : Bool} {M : Nat → Nat}
theorem txtAll_mem {d : DataW H} {k : Nat} : ∀ {l : List (DataW H)}, d ∈ l → k ∈ txt d → k ∈ txtAll l
  | [], hd, _ => by cases hd
  | a :: l, hd, hk => by
    simp only [txtAll, List.mem_append]
    rcases List.mem_cons.1 hd with rfl | hd
    · exact .inl hk
    · exact .inr (txtAll_mem hd hk)
theorem open_fsB {B : Nat} {rec : TypeId → List Dat → Prop} {tr : TypeId → List Value → Option (DataW H × List MemPlace)} {cs : List Value} {l : List TypeId}
    (hrec : ∀ t cs x, t ∈ l → tr t cs = some x → (∀ k ∈ txt x.1, k ≤ B) → ∃ ds, rec t ds ∧ RepL w M ds cs) :
    ∀ (fs : List Field) (off n : Nat) (xs : List (DataW H × List MemPlace)), (∀ f ∈ fs, f.type ∈ l) → sideBy P fs off = some n → n = cs.length → (∀ f ∈ fs, ∀ c, rec f.type c → c.length = P.cellsOf f.type ∨ True) →
      fs.mapM (fun f => tr f.type ((cs.drop f.offset).take (P.cellsOf f.type))) = some xs → (∀ k ∈ txtAll (xs.map (·.1)), k ≤ B) → ∃ ds, hasFs rec fs ds ∧ RepL w M ds (cs.drop off)
  | [], off, n, xs, _, hs, hn, _, _, _ => by
    cases hs
    refine ⟨[], rfl, ?_⟩
    rw [hn, List.drop_length]
    exact ⟨rfl, fun j x v hx _ => by simp at hx⟩
  | f :: fs, off, n, xs, hl, hs, hn, hc, h, hB => by
    simp only [List.mapM_cons, Option.bind_eq_bind, Option.bind_eq_some_iff, Option.pure_def, Option.some.injEq] at h
    obtain ⟨x, hx, ys, hys, rfl⟩ := h
    simp only [List.map_cons, txtAll, List.mem_append] at hB
    simp only [sideBy] at hs
    obtain ⟨h1, h2⟩ := cond_any hs
    have h1 : f.offset = off := by simpa using h1
    subst h1
    obtain ⟨b, k1, k2⟩ := open_fsB hrec fs _ n ys (fun g hg => hl g (by simp [hg])) h2 hn (fun _ _ _ _ => Or.inr trivial) hys (fun k hk => hB k (.inr hk))
    obtain ⟨a, k3, k4⟩ := hrec _ _ _ (hl f (by simp)) hx (fun k hk => hB k (.inl hk))
    refine ⟨a ++ b, ⟨a, b, rfl, k3, k1⟩, ?_⟩
    rw [take_drop_split cs f.offset (P.cellsOf f.type)]
    exact k4.append k2

/-- what a reading came through is data of the type, and these are represented -/
theorem open_trodB {B : Nat} {l : List TypeId} (hl : simpleSet P l = true) : ∀ (fuel : Nat) (t : TypeId) (cs : List Value) (x : DataW H × List MemPlace), t ∈ l → DataW.trod enc P w base (fun _ => true) held fuel t cs = some x → (∀ k ∈ txt x.1, k ≤ B) →
    ∃ ds, hasTB P B fuel t ds ∧ RepL w (sizes w) ds cs
  | 0, t, cs, x, _, h, _ => by simp [DataW.trod] at h
  | n + 1, t, cs, x, ht, h, hB => by
    have ih := open_trodB (B := B) hl n
    have hone := List.all_eq_true.1 hl t ht
    unfold hasTB
    split at hone
    · rename_i hu
      try simp only [hu]
      have : ∃ b, cs = [.bool b] := by
        rw [DataW.trod.eq_def] at h
        simp only [hu] at h
        split at h <;> simp_all
      obtain ⟨b, rfl⟩ := this
      exact ⟨[.bool b], ⟨b, rfl⟩, repL_one (.bool b)⟩
    · rename_i k hu
      try simp only [hu]
      obtain ⟨z, rfl, _, hw⟩ := DataW.trod_int hu h
      exact ⟨[.int k z], ⟨z, rfl, hw⟩, repL_one (.int k z)⟩
    · rename_i hu
      try simp only [hu]
      have : ∃ s : ByteArray, cs = [.string s] ∧ s.size ≤ B := by
        obtain ⟨s, rfl, hx, _⟩ := DataW.trod_string hu h
        subst hx
        refine ⟨s, rfl, ?_⟩
        have := hB s.data.toList.length (by simp [txt])
        simpa using this
      obtain ⟨s, rfl, hs⟩ := this
      exact ⟨[.str s], ⟨s, rfl, hs⟩, repL_one (.str s)⟩
    · rename_i e hu
      try simp only [hu]
      simp only [Bool.and_eq_true, List.contains_iff_mem, decide_eq_true_eq] at hone
      obtain ⟨⟨he, hpos⟩, _⟩ := hone
      rcases DataW.trod_slice hu h with ⟨rfl, _⟩ | ⟨a, len, cap, elems, rest, n', hn', rfl, hxx, _, hlc, hcm, hel, hx, _, _⟩
      · exact ⟨[.sl []], ⟨[], rfl, by simp, fun c hc => by cases hc⟩, repL_one .nilS⟩
      · obtain rfl : n = n' := by omega
        subst hxx
        have hBe : ∀ i (hi : i < elems.length), ∀ k ∈ txt (elems[i]).1, k ≤ B := fun i hi k hk => by
          refine hB k ?_
          simp only [txt, List.mem_append]
          refine .inl (txtAll_mem (List.mem_map.2 ⟨_, List.getElem_mem hi, rfl⟩) hk)
        -- each element
        have hex : ∀ i, ∃ ds : List Dat, i < len → hasTB P B n e ds ∧ ds.length = P.cellsOf e ∧ ∀ (j : Nat) d, ds[j]? = some d → ∃ v, w.cell? (a.add (i * P.cellsOf e + j)) = some v ∧ Rep w (sizes w) d v := by
          intro i
          by_cases hi : i < len
          · have h0 := hx i hi
            rw [List.getElem?_eq_getElem (by omega), Option.bind_eq_some_iff] at h0
            obtain ⟨cs', h1, h2⟩ := h0
            obtain ⟨_, hlen, hcell⟩ := World.cells?_some h1
            obtain ⟨ds, k1, k2⟩ := ih e cs' _ he h2 (hBe i (by omega))
            refine ⟨ds, fun _ => ⟨k1, by rw [k2.1, hlen], fun j d hd => ?_⟩⟩
            have hj : j < cs'.length := by rw [← k2.1]; exact (List.getElem?_eq_some_iff.1 hd).1
            have := hcell j (by omega)
            rw [List.getElem?_eq_getElem hj, add_add] at this
            exact ⟨_, this, k2.2 j d _ hd (List.getElem?_eq_getElem hj)⟩
          · exact ⟨[], fun h => absurd h hi⟩
        obtain ⟨F, hF⟩ := Classical.axiomOfChoice hex
        refine ⟨[.sl ((List.range len).map F)], ⟨_, rfl, by simp; omega, fun c hc => ?_⟩, repL_one ?_⟩
        · obtain ⟨i, hi, rfl⟩ := List.mem_map.1 hc
          exact (hF i (by simpa using hi)).1
        · have hcell : ∀ k, k < len * P.cellsOf e → ∃ v, w.cell? (a.add k) = some v := by
            intro k hk
            have hdm : k / P.cellsOf e * P.cellsOf e + k % P.cellsOf e = k := by rw [Nat.mul_comm]; exact Nat.div_add_mod k _
            have hi : k / P.cellsOf e < len := Nat.div_lt_of_lt_mul (by rw [Nat.mul_comm]; exact hk)
            obtain ⟨_, h2, h3⟩ := hF _ hi
            have hlt : k % P.cellsOf e < (F (k / P.cellsOf e)).length := by rw [h2]; exact Nat.mod_lt _ hpos
            obtain ⟨v, hv, _⟩ := h3 _ _ (List.getElem?_eq_getElem hlt)
            rw [hdm] at hv
            exact ⟨v, hv⟩
          refine .sl (size := P.cellsOf e) (fun k => (w.cell? (a.add k)).getD undef) (by simp) hlc hcm (fun h0 => ?_) (fun c hc => ?_) (fun k hk => ?_) (fun i j c d hi hd => ?_)
          · obtain ⟨v, hv⟩ := hcell 0 (Nat.mul_pos h0 hpos)
            exact spot_of_cell (by simpa [Addr.add] using hv)
          · obtain ⟨i, hi, rfl⟩ := List.mem_map.1 hc
            exact (hF i (by simpa using hi)).2.1
          · obtain ⟨v, hv⟩ := hcell k hk
            refine ⟨by rw [hv]; rfl, ?_⟩
            have := below_sizes hv
            rw [add_off, add_block] at this
            exact this
          · rw [List.getElem?_map, Option.map_eq_some_iff] at hi
            obtain ⟨i', hi', rfl⟩ := hi
            have hir := (List.getElem?_eq_some_iff.1 hi')
            obtain ⟨hlt, rfl⟩ := hir
            have hlt' : i < len := by simpa using hlt
            simp only [List.getElem_range] at hd
            obtain ⟨v, hv, hr⟩ := (hF i hlt').2.2 j d hd
            rw [hv]
            exact hr
    · rename_i fs hu
      try simp only [hu]
      simp only [Bool.and_eq_true, List.all_eq_true, List.contains_iff_mem, beq_iff_eq] at hone
      obtain ⟨hf, hside⟩ := hone
      rw [DataW.trod.eq_def] at h
      simp only [hu] at h
      split at h
      · rename_i hlen
        rw [Option.map_eq_some_iff] at h
        obtain ⟨xs, h1, hxx⟩ := h
        subst hxx
        obtain ⟨ds, k1, k2⟩ := open_fsB (B := B) (rec := hasTB P B n) (fun t cs x ht h hB => ih t cs x ht h hB) fs.toList 0 _ xs hf hside hlen.symm (fun _ _ _ _ => Or.inr trivial) h1 (fun k hk => hB k (by simpa [txt] using hk))
        rw [List.drop_zero] at k2
        exact ⟨ds, k1, k2⟩
      · cases h
    · cases hone

theorem open_argB {B : Nat} {l : List TypeId} (hl : simpleSet P l = true) {r : Reach} {b0 : Nat} {t : TypeId} {v : Value} {d : DataW H} {ps : List MemPlace} (ht : t ∈ l) (hval : Value.okWide P w r b0 t v)
    (h : DataW.Trod enc P w base (fun _ => true) held t v d ps) (hB : ∀ k ∈ txt d, k ≤ B) : ∃ n ds, hasTB P B n t ds ∧ RepB w (sizes w) [] (argOf P t ds) v := by
  obtain ⟨fuel, hf⟩ := h
  obtain ⟨ds, h1, h2⟩ := open_trodB (B := B) hl fuel t _ _ ht hf hB
  refine ⟨fuel, ds, h1, ?_⟩
  have hone := List.all_eq_true.1 hl t ht
  have cell : isAggT P t = false → v.cells = #[v] → ds.length = 1 → RepB w (sizes w) [] (argOf P t ds) v := by
    intro ha hv hd
    match ds, hd with
    | [d], _ =>
      unfold argOf
      rw [ha, cond_false]
      rw [hv] at h2
      exact .dat (h2.2 0 d v rfl rfl)
  cases fuel with
  | zero => simp [DataW.trod] at hf
  | succ n =>
    unfold hasTB at h1
    unfold Value.okWide at hval
    split at hone
    · rename_i hu
      simp only [hu] at hval h1
      obtain ⟨b, rfl⟩ := h1
      refine cell (by simp [isAggT, hu]) ?_ rfl
      cases v <;> simp_all [Cell.okWide, Cell.ok, Value.cells]
    · rename_i k hu
      simp only [hu] at hval h1
      obtain ⟨b, rfl, _⟩ := h1
      refine cell (by simp [isAggT, hu]) ?_ rfl
      cases v <;> simp_all [Cell.okWide, Cell.ok, Value.cells]
    · rename_i hu
      simp only [hu] at hval h1
      obtain ⟨b, rfl, _⟩ := h1
      refine cell (by simp [isAggT, hu]) ?_ rfl
      cases v <;> simp_all [Cell.okWide, Cell.ok, Value.cells]
    · rename_i e hu
      simp only [hu] at hval h1
      obtain ⟨b, rfl, _⟩ := h1
      refine cell (by simp [isAggT, hu]) ?_ rfl
      cases v <;> simp_all [Cell.okWide, Cell.ok, Value.cells]
    · rename_i fs hu
      simp only [hu] at hval
      obtain ⟨cs, rfl, _⟩ := hval
      unfold argOf
      rw [show isAggT P t = true by simp [isAggT, hu], cond_true]
      have h2 : RepL w (sizes w) ds cs.toList := h2
      refine .agg (by simpa using h2.1) fun i c v hc hv => ?_
      rw [List.getElem?_map, Option.map_eq_some_iff] at hc
      obtain ⟨d, hd, rfl⟩ := hc
      exact ⟨h2.2 i d v hd (by simpa using hv), rfl⟩
    · cases hone
end
end Go.Aev

end
section
/- Plain laws for what the printed functions are made of. -/
namespace Go.Aev

/-- a text by its list of bytes -/
def mk (l : List UInt8) : ByteArray := ⟨l.toArray⟩

theorem mk_data (b : ByteArray) : mk b.data.toList = b := by cases b; simp [mk]
theorem exists_mk (b : ByteArray) : ∃ l, b = mk l := ⟨b.data.toList, (mk_data b).symm⟩
@[simp] theorem data_mk (l : List UInt8) : (mk l).data.toList = l := by simp [mk]
@[simp] theorem data_mk1 (l : List UInt8) : (mk l).data = l.toArray := rfl
@[simp] theorem size_mk (l : List UInt8) : (mk l).size = l.length := by simp [mk, ByteArray.size]
theorem data_inj {a b : ByteArray} (h : a.data.toList = b.data.toList) : a = b := by rw [← mk_data a, ← mk_data b, h]
@[simp] theorem mk_inj {a b : List UInt8} : mk a = mk b ↔ a = b := ⟨fun h => by have := congrArg (fun b : ByteArray => b.data.toList) h; simpa using this, fun h => by rw [h]⟩
@[simp] theorem mk_append (a b : List UInt8) : mk a ++ mk b = mk (a ++ b) := by
  apply data_inj
  simp [mk, ByteArray.data_append]
@[simp] theorem extract_mk (l : List UInt8) (i j : Nat) : (mk l).extract i j = mk ((l.take j).drop i) := by
  apply data_inj
  simp [mk, ByteArray.data_extract, List.drop_take]
theorem bs_mk (l : List Nat) : bs l = mk (l.map UInt8.ofNat) := rfl
theorem byteAt_mk {β : Type} (l : List UInt8) (i : Int) (F : UInt8 → Option β) : byteAt (mk l) i F = cond (decide (0 ≤ i)) (match l[i.toNat]? with
    | some b => F b
    | none => none) none := by
  unfold byteAt
  rw [data_mk]
  cases decide (0 ≤ i)
  · rfl
  · cases l[i.toNat]? <;> rfl
theorem byteAt_some {β : Type} {l : List UInt8} {i : Nat} {b : UInt8} (h : l[i]? = some b) (F : UInt8 → Option β) : byteAt (mk l) (i : Int) F = F b := by
  rw [byteAt_mk]
  simp [h]
theorem elemAt_some {β : Type} {es : List (List Dat)} {i : Nat} {e : List Dat} (h : es[i]? = some e) (F : List Dat → Option β) : elemAt es (i : Int) F = F e := by
  unfold elemAt
  simp [h]

theorem wrap_i64 {n : Int} (h : -9223372036854775808 ≤ n ∧ n ≤ 9223372036854775807) : IntKind.wrap .i64 n = n := by
  rw [IntKind.wrap_i64]
  omega

end Go.Aev

end
section
/- strings.Builder's methods, at any program, as the evaluator sees them. -/
set_option linter.unusedVariables false
namespace Go.Aev
open Go.Proofs Go.Shelf Go.RowKit

section
variable {P : Program} (w : World)

/-- what is appended stays in its row, or in a new one -/
theorem append_own_sharp (t ty e : TypeId) (i : TypeInfo) (z : Value) (size bytes : Nat) (ht : P.underlying t = some (.slice e)) (hi : P.info? e = some i) (hz : i.zero = some z)
    (hsize : i.size = size) (hby : i.bytes = bytes) (hzs : z.cells.size = size) (hsz : 0 < size)
    (v : Value) (n : Nat) (xs : List Value) (hown : w.ownsRowF 0 e size v n xs)
    (a : Addr) (m c : Nat) (news : List Value) (hl : news.length = m * size) (hnews : ∀ j u, news[j]? = some u → w.cell? (a.add j) = some u) (h1 : ∀ u ∈ news, u.oneCell' = true)
    (h63 : n + m ≤ maxLen) (hbytes : (n + m) * bytes ≤ 140737488355328) :
    ∃ v' w', (Builtin.append_ #[t, t] ty #[v, .slice (some a) m c]).run P w = .ok v' w' ∧ w'.ownsRowF 0 e size v' (n + m) (xs ++ news) ∧ w.grownBy w' v.ownBlock ∧
      (v' = .slice none 0 0 ↔ v = .slice none 0 0 ∧ m = 0) ∧ ∀ k, v'.ownBlock = some k → v.ownBlock = some k ∨ w.heap.size ≤ k := by
  obtain ⟨v', w', r1, r2, r3, r4⟩ := run_append_ownF (P := P) w 0 t ty e i z size bytes ht hi hz hsize hby hzs hsz v n xs hown a m c news hl hnews h1 h63 hbytes (Nat.zero_le _)
  refine ⟨v', w', r1, r2, r3, r4, fun k hk => ?_⟩
  rcases hown.2 with ⟨rfl, rfl⟩ | ⟨g, cap, cur, fz, rfl, hbg, hg, hfz, hnc, hcm, hcs, htake⟩
  · obtain ⟨v'', w'', q1, q2, _⟩ := run_append_ownF (P := P) w w.heap.size t ty e i z size bytes ht hi hz hsize hby hzs hsz (.slice none 0 0) 0 xs ⟨hown.1, .inl ⟨rfl, rfl⟩⟩ a m c news hl hnews h1 h63 hbytes (Nat.le_refl _)
    rw [r1] at q1
    cases q1
    exact .inr (q2.lt k hk).1
  · subst hsize
    subst hby
    have hsmall : n + m ≤ 9223372036854775807 := by simp only [maxLen] at h63; omega
    by_cases hroom : n + m ≤ cap
    · have hfit : n * i.size + news.length ≤ cur.size := by rw [hl, hcs, ← Nat.add_mul]; exact Nat.mul_le_mul_right _ hroom
      have hr := run_append_roomF (P := P) w t ty e i ht hi g n cap cur fz hg hfz a m c news hl hnews h1 hroom hfit
      rw [r1] at hr
      cases hr
      exact .inl hk
    · have holds : ∀ j u, xs[j]? = some u → w.cell? ((⟨g, 0, none⟩ : Addr).add j) = some u := hown.cells (g := g) rfl
      have hr := run_append_grow (P := P) w t ty e i z ht hi hz ⟨g, 0, none⟩ n cap xs hown.1 holds a m c news hl hnews (by omega) (by omega) (growslice_fits (by omega) hbytes)
      rw [r1] at hr
      cases hr
      cases hk
      exact .inr (Nat.le_refl _)

/-- the same of a string's bytes -/
theorem append_string_sharp (t u ty e : TypeId) (i : TypeInfo) (ht : P.underlying t = some (.slice e)) (hu : P.underlying u = some .string) (hi : P.info? e = some i) (hz : i.zero = some (.int .u8 0))
    (hsize : i.size = 1) (hby : i.bytes = 1)
    (v : Value) (n : Nat) (xs : List Value) (hown : w.ownsRowF 0 e 1 v n xs) (s : ByteArray)
    (h63 : n + s.size ≤ maxLen) (hbytes : n + s.size ≤ 140737488355328) :
    ∃ v' w', (Builtin.append_ #[t, u] ty #[v, .string s]).run P w = .ok v' w' ∧ w'.ownsRowF 0 e 1 v' (n + s.size) (xs ++ Lib.strCells s) ∧ w.grownBy w' v.ownBlock ∧
      (v' = .slice none 0 0 ↔ v = .slice none 0 0 ∧ s.size = 0) ∧ ∀ k, v'.ownBlock = some k → v.ownBlock = some k ∨ w.heap.size ≤ k := by
  obtain ⟨v', w', r1, r2, r3, r4⟩ := Lib.run_append_own_stringF (P := P) w 0 t u ty e i ht hu hi hz hsize hby v n xs hown s h63 hbytes (Nat.zero_le _)
  refine ⟨v', w', r1, r2, r3, r4, fun k hk => ?_⟩
  rcases hown.2 with ⟨rfl, rfl⟩ | ⟨g, cap, cur, fz, rfl, hbg, hg, hfz, hnc, hcm, hcs, htake⟩
  · obtain ⟨v'', w'', q1, q2, _⟩ := Lib.run_append_own_stringF (P := P) w w.heap.size t u ty e i ht hu hi hz hsize hby (.slice none 0 0) 0 xs ⟨hown.1, .inl ⟨rfl, rfl⟩⟩ s h63 hbytes (Nat.le_refl _)
    rw [r1] at q1
    cases q1
    exact .inr (q2.lt k hk).1
  · have hsmall : n + s.size ≤ 9223372036854775807 := by simp only [maxLen] at h63; omega
    have hxl : xs.length = n := by simpa using hown.1
    by_cases hroom : n + s.size ≤ cap
    · have hcs' : cur.size = cap := by simpa using hcs
      have hr := Lib.run_append_room_stringF (P := P) w t u ty e i ht hu hi hsize g n cap cur fz hg (by simpa using hfz) s hroom (by omega)
      rw [r1] at hr
      cases hr
      exact .inl hk
    · have holds : ∀ j u, xs[j]? = some u → w.cell? ((⟨g, 0, none⟩ : Addr).add j) = some u := hown.cells (g := g) rfl
      have hr := Lib.run_append_grow_string (P := P) w t u ty e i (.int .u8 0) ht hu hi hz ⟨g, 0, none⟩ n cap xs (by rw [hsize]; simpa using hxl) holds s (by omega) (by omega) (by rw [hby]; exact growslice_fits (by omega) (by omega))
      rw [r1] at hr
      cases hr
      cases hk
      exact .inr (Nat.le_refl _)

theorem wpList_append_sharp {ops : Array Oper} {rest : List Oper} {o : Oper} {a : Act} {Q : Exit → Act → World → Prop} (hgd : o.guard = none) (s x : Operand) (t : TypeId)
    (ho : o.op = .call { callee := .builtin .append, args := #[s, x], argTypes := #[t, t] })
    (e : TypeId) (i : TypeInfo) (z : Value) (size bytes : Nat) (ht : P.underlying t = some (.slice e)) (hi : P.info? e = some i) (hz : i.zero = some z)
    (hsize : i.size = size) (hby : i.bytes = bytes) (hzs : z.cells.size = size) (hsz : 0 < size)
    (v : Value) (n : Nat) (xs : List Value) (hs : a.eval s = v) (hown : w.ownsRowF 0 e size v n xs)
    (ad : Addr) (m c : Nat) (news : List Value) (hx : a.eval x = .slice (some ad) m c) (hl : news.length = m * size) (hnews : ∀ j u, news[j]? = some u → w.cell? (ad.add j) = some u) (h1 : ∀ u ∈ news, u.oneCell' = true)
    (h63 : n + m ≤ maxLen) (hbytes : (n + m) * bytes ≤ 140737488355328)
    (h : ∀ v' w', w'.ownsRowF 0 e size v' (n + m) (xs ++ news) → w.grownBy w' v.ownBlock → (v' = .slice none 0 0 ↔ v = .slice none 0 0 ∧ m = 0) → (∀ k, v'.ownBlock = some k → v.ownBlock = some k ∨ w.heap.size ≤ k) →
      wpList P ops Q rest (a.put o.dst v') w') : wpList P ops Q (o :: rest) a w := by
  refine wpList_plain hgd fun K hK => ?_
  obtain ⟨v', w', hr, h2, h3, h4, h5⟩ := append_own_sharp (P := P) w t o.type e i z size bytes ht hi hz hsize hby hzs hsz v n xs hown ad m c news hl hnews h1 h63 hbytes
  unfold Oper.wp execOp
  simp only [ho, resolve, invoke, builtin, Sem.run_bind, Sem.run_pure, Result.andThen_ok, List.map_toArray, List.map_cons, List.map_nil, hs, hx, hr]
  exact hK _ _ (h v' w' h2 h3 h4 h5)

theorem wpList_append_string_sharp {ops : Array Oper} {rest : List Oper} {o : Oper} {a : Act} {Q : Exit → Act → World → Prop} (hgd : o.guard = none) (sl x : Operand) (t u : TypeId)
    (ho : o.op = .call { callee := .builtin .append, args := #[sl, x], argTypes := #[t, u] })
    (e : TypeId) (i : TypeInfo) (ht : P.underlying t = some (.slice e)) (hu : P.underlying u = some .string) (hi : P.info? e = some i) (hz : i.zero = some (.int .u8 0))
    (hsize : i.size = 1) (hby : i.bytes = 1)
    (v : Value) (n : Nat) (xs : List Value) (hs : a.eval sl = v) (hown : w.ownsRowF 0 e 1 v n xs) (s : ByteArray) (hx : a.eval x = .string s)
    (h63 : n + s.size ≤ maxLen) (hbytes : n + s.size ≤ 140737488355328)
    (h : ∀ v' w', w'.ownsRowF 0 e 1 v' (n + s.size) (xs ++ Lib.strCells s) → w.grownBy w' v.ownBlock → (v' = .slice none 0 0 ↔ v = .slice none 0 0 ∧ s.size = 0) → (∀ k, v'.ownBlock = some k → v.ownBlock = some k ∨ w.heap.size ≤ k) →
      wpList P ops Q rest (a.put o.dst v') w') : wpList P ops Q (o :: rest) a w := by
  refine wpList_plain hgd fun K hK => ?_
  obtain ⟨v', w', hr, h2, h3, h4, h5⟩ := append_string_sharp (P := P) w t u o.type e i ht hu hi hz hsize hby v n xs hown s h63 hbytes
  unfold Oper.wp execOp
  simp only [ho, resolve, invoke, builtin, Sem.run_bind, Sem.run_pure, Result.andThen_ok, List.map_toArray, List.map_cons, List.map_nil, hs, hx, hr]
  exact hK _ _ (h v' w' h2 h3 h4 h5)
end

/-- from one world to another by a builder's method -/
structure BStep (T e : TypeId) (b : Nat) (v : Value) (w w' : World) (bs' : List Value) : Prop where
  os : w'.os = w.os
  tape : w'.tape = w.tape
  output : w'.output = w.output
  size : w.heap.size ≤ w'.heap.size
  block : ∀ k, k < w.heap.size → k ≠ b → some k ≠ v.ownBlock → w'.heap[k]? = w.heap[k]?
  res : ∃ p' v', (p' = .pointer none ∨ p' = .pointer (some ⟨b, 0, none⟩)) ∧ w'.heap[b]? = some (.cells #[p', v'] T (0, 0)) ∧ w'.ownsRowF 0 e 1 v' bs'.length bs' ∧ (bs' = [] → v' = .slice none 0 0) ∧
    ∀ k, v'.ownBlock = some k → k ≠ b ∧ (v.ownBlock = some k ∨ w.heap.size ≤ k)

/-- a builder as it stands -/
structure BAt (T e : TypeId) (b : Nat) (p v : Value) (w : World) (bs : List Value) : Prop where
  addr : p = .pointer none ∨ p = .pointer (some ⟨b, 0, none⟩)
  heap : w.heap[b]? = some (.cells #[p, v] T (0, 0))
  own : w.ownsRowF 0 e 1 v bs.length bs
  nil : bs = [] → v = .slice none 0 0
  ne : v.ownBlock ≠ some b

section
variable {P : Program} {ρ : Ren}

theorem BAt.isF {T e : TypeId} {b : Nat} {p v : Value} {w : World} {bs : List Value} (h : BAt T e b p v w bs) : Lib.IsBuilderF T e 0 b bs w := by
  rcases h.addr with rfl | rfl
  · exact .inl ⟨Nat.zero_le _, v, h.heap, h.own, h.ne⟩
  · exact .inr ⟨Nat.zero_le _, v, h.heap, h.own, h.ne⟩

theorem BAt.lt {T e : TypeId} {b : Nat} {p v : Value} {w : World} {bs : List Value} (h : BAt T e b p v w bs) : b < w.heap.size := lt_of_heap h.heap

/-- copyCheck: behind it the builder holds its own address -/
theorem bld_copyCheck (L : Lays.n240 P ρ) (X : Builder.X72 P ρ) (b : Nat) (p v : Value) (bs : List Value) (w : World) (h : BAt (ρ.t 72) (ρ.t 5) b p v w bs) :
    Calls P (ρ.f 240) #[.pointer (some ⟨b, 0, none⟩)] w fun e w' => e = .returned (.tuple #[]) ∧ w'.heap.size = w.heap.size ∧ w'.os = w.os ∧ w'.tape = w.tape ∧ w'.output = w.output ∧
      (∀ k, k ≠ b → w'.heap[k]? = w.heap[k]?) ∧ BAt (ρ.t 72) (ρ.t 5) b (.pointer (some ⟨b, 0, none⟩)) v w' bs := by
  have hF := h.isF
  rcases h.addr with rfl | rfl
  · have hA : Lib.BuilderAtF (ρ.t 72) (ρ.t 5) 0 b (.pointer none) bs w := ⟨Nat.zero_le _, v, h.heap, h.own, h.ne⟩
    refine (Any.Builder_copyCheck_fresh L X b w hA.cell0 hA.shape hA.frozen0).mono ?_
    rintro e w' ⟨rfl, rfl⟩
    have hk : ∀ k, k ≠ b → (w.setCell ⟨b, 0, none⟩ (.pointer (some ⟨b, 0, none⟩))).heap[k]? = w.heap[k]? := fun k hk => Below.heap_setCell _ _ _ _ hk
    refine ⟨rfl, by simp [World.setCell], rfl, rfl, rfl, hk, .inr rfl, ?_, ?_, h.nil, h.ne⟩
    · simp [World.setCell, Array.getElem?_modify, h.heap]
    · exact h.own.kept (row := some b) ⟨rfl, rfl, rfl, by simp [World.setCell], fun k _ hk => Below.heap_setCell _ _ _ _ (fun e => hk (by simp [e]))⟩ (.inr h.ne)
  · have hA : Lib.BuilderAtF (ρ.t 72) (ρ.t 5) 0 b (.pointer (some ⟨b, 0, none⟩)) bs w := ⟨Nat.zero_le _, v, h.heap, h.own, h.ne⟩
    refine (Any.Builder_copyCheck_used L X b w hA.cell0).mono ?_
    rintro e w' ⟨rfl, rfl⟩
    exact ⟨rfl, rfl, rfl, rfl, rfl, fun _ _ => rfl, h⟩

/-- the last store of a writing method -/
theorem bstep_put {T e : TypeId} {b : Nat} {v v' : Value} {w w1 w2 : World} {bs' : List Value} (hTe : T ≠ e) (hlt : b < w.heap.size)
    (e1 : w1.heap.size = w.heap.size ∧ w1.os = w.os ∧ w1.tape = w.tape ∧ w1.output = w.output ∧ ∀ k, k ≠ b → w1.heap[k]? = w.heap[k]?)
    (hg : w1.grownBy w2 v.ownBlock) (hb : w2.heap[b]? = some (.cells #[.pointer (some ⟨b, 0, none⟩), v] T (0, 0))) (hown : w2.ownsRowF 0 e 1 v' bs'.length bs')
    (hnil : bs' = [] → v' = .slice none 0 0) (hk : ∀ k, v'.ownBlock = some k → v.ownBlock = some k ∨ w.heap.size ≤ k) : BStep T e b v w (w2.setCell ⟨b, 1, none⟩ v') bs' := by
  obtain ⟨f1, f2, f3, f4, f5⟩ := e1
  obtain ⟨_, v'', h1, h2, h3⟩ := Lib.BuilderAtF.put (T := T) (e := e) (Nat.zero_le b) hb hown hTe
  refine ⟨hg.os.trans f2, hg.tape.trans f3, hg.output.trans f4, by have := hg.size; simp [World.setCell]; omega, fun k hlt hkb hkv => ?_, ?_⟩
  · rw [show (w2.setCell ⟨b, 1, none⟩ v').heap[k]? = w2.heap[k]? from Below.heap_setCell _ _ _ _ hkb, hg.block k (by omega) hkv]
    exact f5 k hkb
  · have hv : v'' = v' := by
      have : (w2.setCell ⟨b, 1, none⟩ v').heap[b]? = some (.cells #[.pointer (some ⟨b, 0, none⟩), v'] T (0, 0)) := by simp [World.setCell, Array.getElem?_modify, hb]
      rw [this] at h1
      simpa using h1.symm
    subst hv
    refine ⟨_, _, .inr rfl, h1, h2, hnil, fun k hkk => ⟨?_, hk k hkk⟩⟩
    rintro rfl
    exact h3 hkk

set_option maxHeartbeats 2000000 in
set_option maxRecDepth 100000 in
/-- WriteByte -/
theorem bld_writeByte (L : Lays.n167 P ρ) (X : Builder.Extra P ρ) (b : Nat) (p v : Value) (bs : List Value) (c : Int) (w : World) (h : BAt (ρ.t 72) (ρ.t 5) b p v w bs) (hlen : bs.length + 1 ≤ 140737488355328) :
    Calls P (ρ.f 167) #[.pointer (some ⟨b, 0, none⟩), .int .u8 c] w fun e w' => e = .returned .nilIface ∧ BStep (ρ.t 72) (ρ.t 5) b v w w' (bs ++ [.int .u8 c]) := by
  obtain ⟨i0, hi, hz0, hz1, hz2⟩ := info_parts X.infoByte
  have mixed := L.mixed
  have t72 := L.t72; have a72 := L.a72; have z72 := L.z72; have v72 := L.v72; have u72 := run_underlying L.t72
  have t70 := L.t70; have a70 := L.a70; have z70 := L.z70; have v70 := L.v70; have u70 := run_underlying L.t70
  have t5 := L.t5; have a5 := L.a5; have z5 := L.z5; have v5 := L.v5; have u5 := run_underlying L.t5
  have t37 := L.t37; have a37 := L.a37; have z37 := L.z37; have v37 := L.v37; have u37 := run_underlying L.t37
  have t9 := L.t9; have a9 := L.a9; have z9 := L.z9; have v9 := L.v9; have u9 := run_underlying L.t9
  have t4 := L.t4; have a4 := L.a4; have z4 := L.z4; have v4 := L.v4; have u4 := run_underlying L.t4
  have t164 := L.t164; have a164 := L.a164; have z164 := L.z164; have v164 := L.v164; have u164 := run_underlying L.t164
  have e240 : ∀ args w, (callFunc (ρ.f 240) args).run P w = .ok (.enter (ρ.f 240) args) w := enters_of L.f240 (by kernel_rfl) rfl
  have hbl := h.lt
  go_enter L.f167, Body.n167_ntmps ρ
  go_wp2_with (go_at_fn (ρ.f 240); refine (bld_copyCheck { L with } X.toX72 b p v bs _ h).mono ?_)
  rintro e w1 ⟨rfl, q1, q2, q3, q4, q5, h1⟩
  have HQ : Hid (w1.heap.size = w.heap.size ∧ w1.os = w.os ∧ w1.tape = w.tape ∧ w1.output = w.output ∧ ∀ k, k ≠ b → w1.heap[k]? = w.heap[k]?) := ⟨q1, q2, q3, q4, q5⟩
  have hlt : b < w1.heap.size := by omega
  clear q1 q2 q3 q4 q5
  have hbk := h1.heap
  have hown := h1.own
  have hne := h1.ne
  have c0 : w1.cell? ⟨b, 0, none⟩ = some (.pointer (some ⟨b, 0, none⟩)) := by rw [Lib.cell_of_heap hbk]; rfl
  have c1 : w1.cell? ⟨b, 1, none⟩ = some v := by rw [Lib.cell_of_heap hbk]; rfl
  go_wp2_with (at_builtin; refine wpList_append_sharp _ rfl _ _ (ρ.t 37) rfl (ρ.t 5) i0 (.int .u8 0) 1 1 L.t37 hi hz0 hz1 hz2 rfl (by decide) _ _ _ rfl (hown.alloc _) ⟨w1.heap.size, 0, none⟩ 1 1 [.int .u8 c] rfl rfl ?c1 ?c2 ?c3 ?c4 ?_)
  case c1 =>
    intro j u hj
    match j, hj with
    | 0, hj => simp at hj; subst hj; simp [Addr.add]
  case c2 => intro u hu; simp at hu; subst hu; rfl
  case c3 => unfold maxLen; omega
  case c4 => omega
  intro v' w2 hown' hgrow _ hsharp
  have hb2 : w2.heap[b]? = some (.cells #[.pointer (some ⟨b, 0, none⟩), v] (ρ.t 72) (0, 0)) := by
    rw [hgrow.block b (by simp; omega) (fun e => hne e.symm), Lib.alloc_old w1 _ b hlt]
    exact hbk
  have d0 : w2.cell? ⟨b, 0, none⟩ = some (.pointer (some ⟨b, 0, none⟩)) := by rw [Lib.cell_of_heap hb2]; rfl
  have d1 : w2.cell? ⟨b, 1, none⟩ = some v := by rw [Lib.cell_of_heap hb2]; rfl
  have f1 : w2.frozen? ⟨b, 1, none⟩ = false := Lib.frozen_of_heap hb2 1
  have hg1 : w1.grownBy w2 v.ownBlock := ⟨hgrow.os, hgrow.tape, hgrow.output, by have := hgrow.size; simp at this; omega, fun k hk hkv => by rw [hgrow.block k (by simp; omega) hkv, Lib.alloc_old w1 _ k hk]⟩
  have hsh : ∀ k, v'.ownBlock = some k → v.ownBlock = some k ∨ w.heap.size ≤ k := fun k hk => (hsharp k hk).imp id fun h => by
    have := HQ.out.1
    have h2 : w1.heap.size ≤ k := Nat.le_trans (by simp) h
    omega
  obtain ⟨g, cap, rfl⟩ : ∃ g cap, v' = .slice (some ⟨g, 0, none⟩) (bs.length + 1) cap := by
    rcases hown'.2 with ⟨_, h0⟩ | ⟨g, cap, cur, fz, hv, _⟩
    · omega
    · exact ⟨g, cap, hv⟩
  go_wp2
  go_ret
  exact ⟨rfl, bstep_put X.neB5 hbl HQ.out hg1 hb2 (by simpa using hown') (fun h => by simp at h) hsh⟩

set_option maxHeartbeats 2000000 in
set_option maxRecDepth 100000 in
/-- WriteString -/
theorem bld_writeString (L : Lays.n166 P ρ) (X : Builder.Extra P ρ) (b : Nat) (p v : Value) (bs : List Value) (s : ByteArray) (w : World) (h : BAt (ρ.t 72) (ρ.t 5) b p v w bs) (hlen : bs.length + s.size ≤ 140737488355328) :
    Calls P (ρ.f 166) #[.pointer (some ⟨b, 0, none⟩), .string s] w fun e w' => e = .returned (.tuple #[.int .i64 s.size, .nilIface]) ∧ BStep (ρ.t 72) (ρ.t 5) b v w w' (bs ++ Lib.strCells s) := by
  obtain ⟨i0, hi, hz0, hz1, hz2⟩ := info_parts X.infoByte
  have mixed := L.mixed
  have t72 := L.t72; have a72 := L.a72; have z72 := L.z72; have v72 := L.v72; have u72 := run_underlying L.t72
  have t70 := L.t70; have a70 := L.a70; have z70 := L.z70; have v70 := L.v70; have u70 := run_underlying L.t70
  have t37 := L.t37; have a37 := L.a37; have z37 := L.z37; have v37 := L.v37; have u37 := run_underlying L.t37
  have t3 := L.t3; have a3 := L.a3; have z3 := L.z3; have v3 := L.v3; have u3 := run_underlying L.t3
  have t9 := L.t9; have a9 := L.a9; have z9 := L.z9; have v9 := L.v9; have u9 := run_underlying L.t9
  have t4 := L.t4; have a4 := L.a4; have z4 := L.z4; have v4 := L.v4; have u4 := run_underlying L.t4
  have t164 := L.t164; have a164 := L.a164; have z164 := L.z164; have v164 := L.v164; have u164 := run_underlying L.t164
  have t5 := X.t5; have a5 := X.a5; have z5 := X.z5; have v5 := X.v5; have u5 := run_underlying X.t5
  have e240 : ∀ args w, (callFunc (ρ.f 240) args).run P w = .ok (.enter (ρ.f 240) args) w := enters_of L.f240 (by kernel_rfl) rfl
  have hbl := h.lt
  have hnil := h.nil
  go_enter L.f166, Body.n166_ntmps ρ
  go_wp2_with (go_at_fn (ρ.f 240); refine (bld_copyCheck { L with } X.toX72 b p v bs _ h).mono ?_)
  rintro e w1 ⟨rfl, q1, q2, q3, q4, q5, h1⟩
  have HQ : Hid (w1.heap.size = w.heap.size ∧ w1.os = w.os ∧ w1.tape = w.tape ∧ w1.output = w.output ∧ ∀ k, k ≠ b → w1.heap[k]? = w.heap[k]?) := ⟨q1, q2, q3, q4, q5⟩
  have hlt : b < w1.heap.size := by omega
  clear q1 q2 q3 q4 q5
  have hbk := h1.heap
  have hown := h1.own
  have hne := h1.ne
  have c0 : w1.cell? ⟨b, 0, none⟩ = some (.pointer (some ⟨b, 0, none⟩)) := by rw [Lib.cell_of_heap hbk]; rfl
  have c1 : w1.cell? ⟨b, 1, none⟩ = some v := by rw [Lib.cell_of_heap hbk]; rfl
  go_wp2_with (at_builtin; refine wpList_append_string_sharp _ rfl _ _ (ρ.t 37) (ρ.t 9) rfl (ρ.t 5) i0 L.t37 L.t9 hi hz0 hz1 hz2 _ _ _ rfl hown s rfl ?c3 ?c4 ?_)
  case c3 => unfold maxLen; omega
  case c4 => omega
  intro v' w2 hown' hgrow hvn hsharp
  have hb2 : w2.heap[b]? = some (.cells #[.pointer (some ⟨b, 0, none⟩), v] (ρ.t 72) (0, 0)) := by
    rw [hgrow.block b hlt (fun e => hne e.symm)]
    exact hbk
  have d0 : w2.cell? ⟨b, 0, none⟩ = some (.pointer (some ⟨b, 0, none⟩)) := by rw [Lib.cell_of_heap hb2]; rfl
  have d1 : w2.cell? ⟨b, 1, none⟩ = some v := by rw [Lib.cell_of_heap hb2]; rfl
  have f1 : w2.frozen? ⟨b, 1, none⟩ = false := Lib.frozen_of_heap hb2 1
  have hsh : ∀ k, v'.ownBlock = some k → v.ownBlock = some k ∨ w.heap.size ≤ k := fun k hk => (hsharp k hk).imp id fun h => by have := HQ.out.1; omega
  have hn2 : bs ++ Lib.strCells s = [] → v' = .slice none 0 0 := fun h0 => hvn.2 (by
    obtain ⟨h0, h2⟩ := List.append_eq_nil_iff.1 h0
    refine ⟨hnil h0, ?_⟩
    have := congrArg List.length h2
    simpa [Lib.strCells_length] using this)
  clear hvn hnil
  obtain ⟨ao, n', cap, rfl⟩ : ∃ ao n' cap, v' = .slice ao n' cap := by
    rcases hown'.2 with ⟨hv, _⟩ | ⟨g, cap, cur, fz, hv, _⟩
    · exact ⟨_, _, _, hv⟩
    · exact ⟨_, _, _, hv⟩
  go_wp2
  go_ret2
  exact ⟨rfl, bstep_put X.neB5 hbl HQ.out hgrow hb2 (by simpa [Lib.strCells_length] using hown') hn2 hsh⟩

set_option maxHeartbeats 1000000 in
set_option maxRecDepth 100000 in
/-- String: some bytes -/
theorem bld_string (L : Lays.n169 P ρ) (X : Builder.Extra P ρ) (b : Nat) (p v : Value) (l : List UInt8) (w : World) (h : BAt (ρ.t 72) (ρ.t 5) b p v w (Lib.byteCells l)) :
    Calls P (ρ.f 169) #[.pointer (some ⟨b, 0, none⟩)] w fun e w' => e = .returned (.string ⟨l.toArray⟩) ∧ BStep (ρ.t 72) (ρ.t 5) b v w w' (Lib.byteCells l) := by
  have mixed := L.mixed
  have t72 := L.t72; have a72 := L.a72; have z72 := L.z72; have v72 := L.v72; have u72 := run_underlying L.t72
  have t70 := L.t70; have a70 := L.a70; have z70 := L.z70; have v70 := L.v70; have u70 := run_underlying L.t70
  have t37 := L.t37; have a37 := L.a37; have z37 := L.z37; have v37 := L.v37; have u37 := run_underlying L.t37
  have t127 := L.t127; have a127 := L.a127; have z127 := L.z127; have v127 := L.v127; have u127 := run_underlying L.t127
  have t3 := L.t3; have a3 := L.a3; have z3 := L.z3; have v3 := L.v3; have u3 := run_underlying L.t3
  have t9 := L.t9; have a9 := L.a9; have z9 := L.z9; have v9 := L.v9; have u9 := run_underlying L.t9
  have t5 := X.t5; have a5 := X.a5; have z5 := X.z5; have v5 := X.v5; have u5 := run_underlying X.t5
  by_cases h0 : l = []
  · subst h0
    have hv := h.nil rfl
    subst hv
    have hUS := Any.unsafeString_none L X
    have c1 : w.drew.cell? ⟨b, 1, none⟩ = some (.slice none 0 0) := by
      have : w.drew.heap[b]? = some (.cells #[p, .slice none 0 0] (ρ.t 72) (0, 0)) := h.heap
      rw [Lib.cell_of_heap this]; rfl
    have hSD : (Builtin.unsafeSliceData_ #[(ρ.t 37)] (ρ.t 127) #[.slice none 0 0]).run P w.drew = .ok (.pointer none) w.drew := rfl
    have hst : BStep (ρ.t 72) (ρ.t 5) b (.slice none 0 0) w w.drew (Lib.byteCells []) :=
      ⟨rfl, rfl, rfl, Nat.le_refl _, fun _ _ _ _ => rfl, p, .slice none 0 0, h.addr, h.heap, h.own, fun _ => rfl, fun k hk => by cases hk⟩
    go_enter L.f169, Body.n169_ntmps ρ
    go_wp2
    go_region_o
    all_goals (go_wp2; go_ret; exact ⟨rfl, hst⟩)
  · have hown := h.own
    have hl0 : l.length ≠ 0 := by simpa using h0
    rw [Lib.byteCells_length] at hown
    obtain ⟨g, cap, cur, fz, rfl, hg, hfz, hnc, hcm, hcs, htake⟩ : ∃ g cap cur fz, v = .slice (some ⟨g, 0, none⟩) l.length cap ∧ w.heap[g]? = some (.cells cur (ρ.t 5) fz) ∧ fz.2 ≤ l.length * 1 ∧ l.length ≤ cap ∧ cap ≤ maxLen ∧ cur.size = cap * 1 ∧ cur.toList.take (l.length * 1) = Lib.byteCells l := by
      rcases hown.2 with ⟨_, hz⟩ | ⟨g, cap, cur, fz, hv, _, r⟩
      · exact absurd hz hl0
      · exact ⟨g, cap, cur, fz, hv, r⟩
    have c1 : w.drew.cell? ⟨b, 1, none⟩ = some (.slice (some ⟨g, 0, none⟩) l.length cap) := by
      have : w.drew.heap[b]? = some (.cells #[p, .slice (some ⟨g, 0, none⟩) l.length cap] (ρ.t 72) (0, 0)) := h.heap
      rw [Lib.cell_of_heap this]; rfl
    have hSD : (Builtin.unsafeSliceData_ #[(ρ.t 37)] (ρ.t 127) #[.slice (some ⟨g, 0, none⟩) l.length cap]).run P w.drew = .ok (.pointer (some ⟨g, 0, none⟩)) w.drew :=
      Lib.run_unsafeSliceData_row _ _ _ _ _ _ (by omega)
    have hUS : (Builtin.unsafeString_ #[(ρ.t 127), (ρ.t 3)] (ρ.t 9) #[.pointer (some ⟨g, 0, none⟩), .int .i64 l.length]).run P w.drew = .ok (.string ⟨l.toArray⟩) (w.drew.freeze ⟨g, 0, none⟩ l.length) := by
      refine Lib.run_unsafeString_row w.drew (ρ.t 127) (ρ.t 3) (ρ.t 9) (ρ.t 5) L.t127 X.cellsByte g cur.size (by have hg' : w.drew.heap[g]? = some (.cells cur (ρ.t 5) fz) := hg; simp [World.shape?, hg']) l h0 (by omega) (by unfold maxLen at hcm; omega) ?_
      intro j x hx
      have := hown.cells (g := g) rfl j (.int .u8 x.toNat) (by simp [Lib.byteCells, hx])
      exact this
    have hst : BStep (ρ.t 72) (ρ.t 5) b (.slice (some ⟨g, 0, none⟩) l.length cap) w (w.drew.freeze ⟨g, 0, none⟩ l.length) (Lib.byteCells l) := by
      have hA : Lib.BuilderAtF (ρ.t 72) (ρ.t 5) 0 b p (Lib.byteCells l) w.drew := ⟨Nat.zero_le _, _, h.heap, by rw [Lib.byteCells_length]; exact hown, h.ne⟩
      have hF := hA.froze (g := g) (cap := cap) (by rw [Lib.byteCells_length]; exact c1)
      rw [Lib.byteCells_length] at hF
      have hbw := Lib.below_freeze (Below.drew (Below.refl 0 w)) (p := ⟨g, 0, none⟩) (Nat.zero_le _) l.length
      have hblk : ∀ k, k ≠ g → (w.drew.freeze ⟨g, 0, none⟩ l.length).heap[k]? = w.heap[k]? := fun k hk => by
        unfold World.freeze
        split
        · rfl
        · simp only [Array.getElem?_modify]
          rw [if_neg (fun e => hk e.symm)]
          rfl
      have hne : b ≠ g := fun e => h.ne (by rw [e]; rfl)
      obtain ⟨_, v', f1, f2, f3⟩ := hF
      have hv' : v' = .slice (some ⟨g, 0, none⟩) l.length cap := by
        rw [hblk b hne, h.heap] at f1
        simpa using f1.symm
      subst hv'
      exact ⟨hbw.os, hbw.tape, hbw.output, hbw.size, fun k _ _ hk => hblk k (fun e => hk (by rw [e]; rfl)), p, _, h.addr, f1, f2, fun e => absurd (by simpa [Lib.byteCells] using e) h0,
        fun k hk => ⟨fun e => f3 (by rw [← e]; exact hk), .inl hk⟩⟩
    go_enter L.f169, Body.n169_ntmps ρ
    go_wp2
    go_region_o
    all_goals (go_wp2; go_ret; exact ⟨rfl, hst⟩)

/-- Len -/
theorem bld_len (L : Lays.n170 P ρ) (b : Nat) (p v : Value) (bs : List Value) (w : World) (h : BAt (ρ.t 72) (ρ.t 5) b p v w bs) :
    Calls P (ρ.f 170) #[.pointer (some ⟨b, 0, none⟩)] w fun e w' => e = .returned (.int .i64 bs.length) ∧ BStep (ρ.t 72) (ρ.t 5) b v w w' bs :=
  (Any.Builder_Len_f L 0 b bs w h.isF).mono fun e w' hq => by
    obtain ⟨he, rfl⟩ := hq
    exact ⟨he, rfl, rfl, rfl, Nat.le_refl _, fun _ _ _ _ => rfl, p, v, h.addr, h.heap, h.own, h.nil, fun k hk => ⟨fun e => h.ne (by rw [← e]; exact hk), .inl hk⟩⟩

end

/-- what a builder's method does, as a call -/
theorem callAt_bld {C : Cfg} (hdr : C.dr = false) {f : FuncId} {F : List AVal → Sig → Option (List Ent × Sig)}
    (h : ∀ args sg rs sg', F args sg = some (rs, sg') → ∃ j rest s s' ds, args = .ref j 0 :: rest ∧ sg[j]? = some (.bld s) ∧ sg' = sg.set j (.bld s') ∧ rs = List.map (fun d => (AVal.dat d, Own.none)) ds ∧
      ∀ (w : World) (M : Nat → Nat) (sm : List Nat) (b : Nat) (p v : Value) (vr : List Value), BAt C.bld.1 C.bld.2 b p v w (Lib.byteCells s.data.toList) → rest.length = vr.length →
        (∀ (i : Nat) x u, rest[i]? = some x → vr[i]? = some u → RepB w M sm x u) →
        Calls C.P f (.pointer (some ⟨b, 0, none⟩) :: vr).toArray w fun e w' => ∃ us, e = .returned (match us with | [u] => u | us => .tuple us.toArray) ∧ BStep C.bld.1 C.bld.2 b v w w' (Lib.byteCells s'.data.toList) ∧
          ds.length = us.length ∧ ∀ (i : Nat) d u, ds[i]? = some d → us[i]? = some u → ∀ w M, Rep w M d u) : CallAt C f F := by
  intro args sg rs sg' hF w M sm vs hl hr hs hg
  obtain ⟨j, rest, s, s', ds, rfl, hj, rfl, rfl, hc⟩ := h args sg rs sg' hF
  obtain ⟨vl⟩ := vs
  match vl, hl with
  | v0 :: vr, hl =>
  have hr0 := hr 0 _ v0 rfl rfl
  cases hr0 with
  | ref hb =>
  rename_i b
  have hbx := hs.2.2.1 j b _ hb hj
  obtain ⟨hM0, p, v, q1, q2, q3, q4, q5⟩ := hbx
  replace hM0 : M b = 0 := hM0
  replace q5 : ∀ k, v.ownBlock = some k → M k = 0 ∧ k ≠ b := q5
  have hsz : ∀ s : ByteArray, s.size = (Lib.byteCells s.data.toList).length := fun s => by rw [Lib.byteCells_length, Lib.size_eq]
  have hat : BAt C.bld.1 C.bld.2 b p v w (Lib.byteCells s.data.toList) := by
    refine ⟨q1, q2, by rw [← hsz]; exact q3, fun e => q4 ?_, fun e => (q5 b e).2 rfl⟩
    rw [hsz, e]; rfl
  have hbuf : bufOf C w b = v.ownBlock := BldOk.buf q2
  refine (hc w M sm b p v vr hat (by simpa using hl) (fun i x u hx hu => hr (i + 1) x u (by simpa using hx) (by simpa using hu))).mono ?_
  rintro e w' ⟨us, rfl, hst, hlen, hres⟩
  obtain ⟨p', v', r1, r2, r3, r4, r5⟩ := hst.res
  have hbuf' : bufOf C w' b = v'.ownBlock := BldOk.buf r2
  let M' : Nat → Nat := fun k => if w.heap.size ≤ k then 0 else M k
  have hM' : ∀ k, k < w.heap.size → M' k = M k := fun k hk => if_neg (by omega)
  have hMn : ∀ k, w.heap.size ≤ k → M' k = 0 := fun k hk => if_pos hk
  have hblt : b < w.heap.size := lt_of_heap q2
  have hkept : ∀ k, k < w.heap.size → k ≠ b → bufOf C w b ≠ some k → w'.heap[k]? = w.heap[k]? := fun k h1 h2 h3 => hst.block k h1 h2 fun e => h3 (by rw [hbuf, e])
  have hkeeps : Keeps w w' M M' := keeps_of fun k hk hm => ⟨hkept k hk (by rintro rfl; omega) fun e => by have := (q5 k (by rw [← hbuf]; exact e)).1; omega, by rw [hM' k hk]; exact Nat.le_refl _⟩
  have hother : ∀ (i : Nat) c, sm[i]? = some c → i ≠ j → c ≠ b ∧ w'.heap[c]? = w.heap[c]? := fun i c hi hij => by
    obtain ⟨bx, _, hx⟩ := hs.box hi
    have hcb : c ≠ b := by
      rintro rfl
      have h1 := (List.getElem?_eq_some_iff.1 hi)
      have h2 := (List.getElem?_eq_some_iff.1 hb)
      exact hij ((List.getElem_inj hs.2.1).1 (h1.2.trans h2.2.symm))
    refine ⟨hcb, hkept c hx.lt hcb fun e => ?_⟩
    exact (hs.2.2.2 j b c hb e).1 (List.mem_of_getElem? hi)
  have hobuf : ∀ (i : Nat) c, sm[i]? = some c → i ≠ j → ∀ k, bufOf C w c = some k → w'.heap[k]? = w.heap[k]? ∧ M' k = M k := fun i c hi hij k hk => by
    obtain ⟨bx, _, hx⟩ := hs.box hi
    have hlt := hx.bufLt hk
    refine ⟨hkept k hlt (fun e => (hs.2.2.2 i c k hi hk).1 (by rw [e]; exact List.mem_of_getElem? hb)) fun e => ?_, hM' k hlt⟩
    exact hij ((hs.2.2.2 i c k hi hk).2 j b hb e)
  refine ⟨_, M', sm, rfl, ⟨hst.os, hst.tape, ⟨hst.output, fun e => by rw [hdr] at e; cases e⟩, hst.size, fun k hk ht => ?_, fun k hk => hM' k hk, ⟨[], by simp, fun b hb => by cases hb⟩, fun i c k hi hk hlt => ?_⟩, ⟨by simpa using hs.1, hs.2.1, fun i c bx hi hbx => ?_, fun i c k hi hk => ?_⟩, us, ?_, by simpa using hlen, fun i x u hx hu => ?_, fun i j e e' t t' n n' he he' h h' => ?_⟩
  · exact hkept k hk (fun e => ht (.inl (by rw [e]; exact List.mem_of_getElem? hb))) fun e => ht (.inr ⟨b, List.mem_of_getElem? hb, e⟩)
  · by_cases hij : i = j
    · subst hij
      obtain rfl : b = c := by rw [hb] at hi; exact Option.some.inj hi
      refine ⟨hi, ?_⟩
      rw [hbuf'] at hk
      rw [hbuf]
      rcases (r5 k hk).2 with h | h
      · exact h
      · omega
    · refine ⟨hi, ?_⟩
      rw [← bufOf_eq (hother i c hi hij).2]
      exact hk
  · by_cases hij : i = j
    · subst hij
      obtain rfl : b = c := by rw [hb] at hi; exact Option.some.inj hi
      have hil : i < sg.length := (List.getElem?_eq_some_iff.1 hj).1
      rw [List.getElem?_set_self hil] at hbx
      cases hbx
      refine ⟨(hM' b hblt).trans hM0, p', v', r1, r2, by rw [hsz]; exact r3, fun e => r4 ?_, fun k hk => ⟨?_, (r5 k hk).1⟩⟩
      · rw [hsz] at e; exact List.eq_nil_of_length_eq_zero e
      · show M' k = 0
        rcases (r5 k hk).2 with h | h
        · have := (q5 k h).1
          by_cases hlt : k < w.heap.size
          · rw [hM' k hlt]; exact this
          · exact hMn k (by omega)
        · exact hMn k h
    · rw [List.getElem?_set_ne (fun e => hij e.symm)] at hbx
      obtain ⟨_, h2⟩ := hother i c hi hij
      have h3 := hs.2.2.1 i c bx hi hbx
      exact SBoxOk.mono (g := gh0 M sm) (g' := gh0 M' sm) hkeeps (fun j c _ h => h) h2 (hM' c h3.lt) (hobuf i c hi hij) h3
  · have hsmlt : ∀ c ∈ sm, c < w.heap.size := fun c hc => by
      obtain ⟨i, hi⟩ := List.getElem?_of_mem hc
      obtain ⟨bx, _, hx⟩ := hs.box hi
      exact hx.lt
    -- a buffer now is the one that was, or a new one
    have hnow : ∀ (i : Nat) c k, sm[i]? = some c → bufOf C w' c = some k → bufOf C w c = some k ∨ (i = j ∧ w.heap.size ≤ k) := fun i c k hi hk => by
      by_cases hij : i = j
      · subst hij
        obtain rfl : b = c := by rw [hb] at hi; exact Option.some.inj hi
        rw [hbuf'] at hk
        rcases (r5 k hk).2 with h | h
        · exact .inl (by rw [hbuf]; exact h)
        · exact .inr ⟨rfl, h⟩
      · exact .inl (by rw [← bufOf_eq (hother i c hi hij).2]; exact hk)
    refine ⟨fun hm => ?_, fun i' c' hi' hk' => ?_⟩
    · rcases hnow i c k hi hk with h | ⟨_, h⟩
      · exact (hs.2.2.2 i c k hi h).1 hm
      · have := hsmlt k hm; omega
    · rcases hnow i c k hi hk with h | ⟨h, h1⟩
      · rcases hnow i' c' k hi' hk' with h' | ⟨_, h2⟩
        · exact (hs.2.2.2 i c k hi h).2 i' c' hi' h'
        · obtain ⟨bx, _, hx⟩ := hs.box hi
          have := hx.bufLt h; omega
      · rcases hnow i' c' k hi' hk' with h' | ⟨h2, _⟩
        · obtain ⟨bx, _, hx⟩ := hs.box hi'
          have := hx.bufLt h'; omega
        · rw [h, h2]
  · match us with
    | [] => rfl
    | [u] => rfl
    | u :: u' :: us => rfl
  · rw [List.getElem?_map, Option.map_eq_some_iff] at hx
    obtain ⟨d, hd, rfl⟩ := hx
    exact ⟨.dat (hres i d u hd hu _ _), trivial⟩
  · rw [List.getElem?_map, Option.map_eq_some_iff] at he
    obtain ⟨d, hd, rfl⟩ := he
    cases h

/-! as functions on plain values -/

def primS (S : Ent3) : List AVal → Sig → Option (List Ent × Sig) := fun a s => S a s _ some

def CpsOk (S : Ent3) : Prop := ∀ a s γ (K : List Ent × Sig → Option γ) q, S a s γ K = some q → ∃ r, S a s _ some = some r ∧ K r = some q

theorem ent_primS {C : Cfg} {f : FuncId} {S : Ent3} (hp : C.prim f = some (primS S)) (hS : CpsOk S) : EntOk C f S :=
  ent_prim hp fun a s γ K q h => by
    obtain ⟨r, h1, h2⟩ := hS a s γ K q h
    show (S a s _ some).bind K = some q
    rw [h1]; exact h2

/-- a byte behind a text -/
def Sp.bpush (s : ByteArray) (c : Int) : ByteArray := s.push (UInt8.ofNat c.toNat)

def bldMax : Nat := 140737488355328

def bldWriteByteS : Ent3 := fun a sg γ K => match a with
  | [.ref j 0, .dat (.int .u8 c)] => (match sg[j]? with
    | some (.bld s) => cond (decide (0 ≤ c) && decide (c < 256) && decide (s.size + 1 ≤ bldMax)) (K ([(.dat .nilI, .none)], sg.set j (.bld (Sp.bpush s c)))) none
    | _ => none)
  | _ => none

def bldWriteStringS : Ent3 := fun a sg γ K => match a with
  | [.ref j 0, .dat (.str t)] => (match sg[j]? with
    | some (.bld s) => cond (decide (s.size + t.size ≤ bldMax)) (K ([(.dat (.int .i64 t.size), .none), (.dat .nilI, .none)], sg.set j (.bld (s ++ t)))) none
    | _ => none)
  | _ => none

def bldStringS : Ent3 := fun a sg γ K => match a with
  | [.ref j 0] => (match sg[j]? with
    | some (.bld s) => K ([(.dat (.str s), .none)], sg.set j (.bld s))
    | _ => none)
  | _ => none

def bldLenS : Ent3 := fun a sg γ K => match a with
  | [.ref j 0] => (match sg[j]? with
    | some (.bld s) => K ([(.dat (.int .i64 s.size), .none)], sg.set j (.bld s))
    | _ => none)
  | _ => none

theorem bldWriteByteS_cps : CpsOk bldWriteByteS := by
  intro a sg γ K q h
  unfold bldWriteByteS at h
  split at h
  · split at h
    · rename_i hj
      obtain ⟨h1, h2⟩ := cond_any h
      exact ⟨_, by simp only [bldWriteByteS, hj, h1, cond_true], h2⟩
    · cases h
  · cases h

theorem bldWriteStringS_cps : CpsOk bldWriteStringS := by
  intro a sg γ K q h
  unfold bldWriteStringS at h
  split at h
  · split at h
    · rename_i hj
      obtain ⟨h1, h2⟩ := cond_any h
      exact ⟨_, by simp only [bldWriteStringS, hj, h1, cond_true], h2⟩
    · cases h
  · cases h

theorem bldStringS_cps : CpsOk bldStringS := by
  intro a sg γ K q h
  unfold bldStringS at h
  split at h
  · split at h
    · rename_i hj
      exact ⟨_, by simp only [bldStringS, hj], h⟩
    · cases h
  · cases h

theorem bldLenS_cps : CpsOk bldLenS := by
  intro a sg γ K q h
  unfold bldLenS at h
  split at h
  · split at h
    · rename_i hj
      exact ⟨_, by simp only [bldLenS, hj], h⟩
    · cases h
  · cases h

section
variable {C : Cfg} {f : FuncId}

theorem bytes_len (s : ByteArray) : (Lib.byteCells s.data.toList).length = s.size := by rw [Lib.byteCells_length, Lib.size_eq]

theorem bldWriteByteS_ok (hd : C.dr = false) (hc : ∀ b p v bs c w, BAt C.bld.1 C.bld.2 b p v w bs → bs.length + 1 ≤ 140737488355328 →
    Calls C.P f #[.pointer (some ⟨b, 0, none⟩), .int .u8 c] w fun e w' => e = .returned .nilIface ∧ BStep C.bld.1 C.bld.2 b v w w' (bs ++ [.int .u8 c])) : CallAt C f (primS bldWriteByteS) := by
  refine callAt_bld hd fun args sg rs sg' h => ?_
  unfold primS bldWriteByteS at h
  split at h
  · rename_i j c
    split at h
    · rename_i s hj
      obtain ⟨h1, h2⟩ := cond_any h
      cases h2
      simp only [Bool.and_eq_true, decide_eq_true_eq] at h1
      obtain ⟨⟨h3, h4⟩, h5⟩ := h1
      refine ⟨j, _, s, _, [.nilI], rfl, hj, rfl, rfl, fun w M sm b p v vr hat hl hr => ?_⟩
      match vr, hl with
      | [u], _ =>
        obtain rfl : u = .int .u8 c := by
          have := hr 0 _ u rfl rfl
          cases this with | dat h => cases h; rfl
        refine (hc b p v _ c w hat (by rw [bytes_len]; exact h5)).mono ?_
        rintro e w' ⟨rfl, hst⟩
        refine ⟨[.nilIface], rfl, ?_, rfl, fun i d u hd hu w M => ?_⟩
        · have : Lib.byteCells (Sp.bpush s c).data.toList = Lib.byteCells s.data.toList ++ [.int .u8 c] := by
            simp only [Sp.bpush, ByteArray.push, Array.toList_push, Lib.byteCells, List.map_append, List.map_cons, List.map_nil]
            congr 3
            simp only [UInt8.toNat_ofNat']
            omega
          rw [this]; exact hst
        · match i, hd, hu with
          | 0, hd, hu => cases hd; cases hu; exact .nilI
          | i + 1, hd, _ => simp at hd
    · cases h
  · cases h

theorem bldWriteStringS_ok (hd : C.dr = false) (hc : ∀ b p v bs s w, BAt C.bld.1 C.bld.2 b p v w bs → bs.length + s.size ≤ 140737488355328 →
    Calls C.P f #[.pointer (some ⟨b, 0, none⟩), .string s] w fun e w' => e = .returned (.tuple #[.int .i64 s.size, .nilIface]) ∧ BStep C.bld.1 C.bld.2 b v w w' (bs ++ Lib.strCells s)) : CallAt C f (primS bldWriteStringS) := by
  refine callAt_bld hd fun args sg rs sg' h => ?_
  unfold primS bldWriteStringS at h
  split at h
  · rename_i j t
    split at h
    · rename_i s hj
      obtain ⟨h1, h2⟩ := cond_any h
      cases h2
      simp only [decide_eq_true_eq] at h1
      refine ⟨j, _, s, _, [.int .i64 t.size, .nilI], rfl, hj, rfl, rfl, fun w M sm b p v vr hat hl hr => ?_⟩
      match vr, hl with
      | [u], _ =>
        obtain rfl : u = .string t := by
          have := hr 0 _ u rfl rfl
          cases this with | dat h => cases h; rfl
        refine (hc b p v _ t w hat (by rw [bytes_len]; exact h1)).mono ?_
        rintro e w' ⟨rfl, hst⟩
        refine ⟨[.int .i64 t.size, .nilIface], rfl, ?_, rfl, fun i d u hd hu w M => ?_⟩
        · have : Lib.byteCells (s ++ t).data.toList = Lib.byteCells s.data.toList ++ Lib.strCells t := by
            simp [Lib.byteCells, Lib.strCells, ByteArray.data_append]
          rw [this]; exact hst
        · match i, hd, hu with
          | 0, hd, hu => cases hd; cases hu; exact .int _ _
          | 1, hd, hu => cases hd; cases hu; exact .nilI
          | i + 2, hd, _ => simp at hd
    · cases h
  · cases h

theorem bldStringS_ok (hd : C.dr = false) (hc : ∀ b p v l w, BAt C.bld.1 C.bld.2 b p v w (Lib.byteCells l) →
    Calls C.P f #[.pointer (some ⟨b, 0, none⟩)] w fun e w' => e = .returned (.string ⟨l.toArray⟩) ∧ BStep C.bld.1 C.bld.2 b v w w' (Lib.byteCells l)) : CallAt C f (primS bldStringS) := by
  refine callAt_bld hd fun args sg rs sg' h => ?_
  unfold primS bldStringS at h
  split at h
  · rename_i j
    split at h
    · rename_i s hj
      cases h
      refine ⟨j, _, s, s, [.str s], rfl, hj, rfl, rfl, fun w M sm b p v vr hat hl hr => ?_⟩
      match vr, hl with
      | [], _ =>
        refine (hc b p v _ w hat).mono ?_
        rintro e w' ⟨rfl, hst⟩
        refine ⟨[.string s], by simp, hst, rfl, fun i d u hd hu w M => ?_⟩
        match i, hd, hu with
        | 0, hd, hu => cases hd; cases hu; exact .str _
        | i + 1, hd, _ => simp at hd
    · cases h
  · cases h

theorem bldLenS_ok (hd : C.dr = false) (hc : ∀ b p v bs w, BAt C.bld.1 C.bld.2 b p v w bs →
    Calls C.P f #[.pointer (some ⟨b, 0, none⟩)] w fun e w' => e = .returned (.int .i64 bs.length) ∧ BStep C.bld.1 C.bld.2 b v w w' bs) : CallAt C f (primS bldLenS) := by
  refine callAt_bld hd fun args sg rs sg' h => ?_
  unfold primS bldLenS at h
  split at h
  · rename_i j
    split at h
    · rename_i s hj
      cases h
      refine ⟨j, _, s, s, [.int .i64 s.size], rfl, hj, rfl, rfl, fun w M sm b p v vr hat hl hr => ?_⟩
      match vr, hl with
      | [], _ =>
        refine (hc b p v _ w hat).mono ?_
        rintro e w' ⟨rfl, hst⟩
        refine ⟨[.int .i64 s.size], by rw [bytes_len], hst, rfl, fun i d u hd hu w M => ?_⟩
        match i, hd, hu with
        | 0, hd, hu => cases hd; cases hu; exact .int _ _
        | i + 1, hd, _ => simp at hd
    · cases h
  · cases h

end
end Go.Aev

end
section
/- Functions of Go's library at any program: what their contracts make of them here. -/
namespace Go.Aev
open Go.RowKit

section
variable {C : Cfg} {f : FuncId}

theorem rep_str {w : World} {M : Nat → Nat} {sm : List Nat} {s : ByteArray} {v : Value} (h : RepB w M sm (.dat (.str s)) v) : v = .string s := by
  cases h with | dat h => cases h; rfl
theorem rep_int {w : World} {M : Nat → Nat} {sm : List Nat} {k : IntKind} {n : Int} {v : Value} (h : RepB w M sm (.dat (.int k n)) v) : v = .int k n := by
  cases h with | dat h => cases h; rfl

theorem addr_add (b o k : Nat) : Addr.add ⟨b, o, none⟩ k = ⟨b, o + k, none⟩ := by
  unfold Addr.add
  split
  · rename_i h; subst h; rfl
  · rfl

/-! strings.HasPrefix -/

def hasPrefA (args : List AVal) (sg : Sig) : Option (List Ent × Sig) :=
  match args, sg with
  | [.dat (.str s), .dat (.str p)], [] => some ([(.dat (.bool (Lib.hasPrefix s.data.toList p.data.toList)), .none)], [])
  | _, _ => none

theorem hasPrefA_ok (hd : C.dr = false) (hc : ∀ s p w, Calls C.P f #[.string s, .string p] w fun e w' => e = .returned (.bool (Lib.hasPrefix s.data.toList p.data.toList)) ∧ w' = w) : CallAt C f hasPrefA := by
  refine callAt_one hd (fun args sg rs sg' h => ?_) fun args sg rs sg' h w M vs hl hr hg => ?_
  · unfold hasPrefA at h
    split at h
    · rfl
    · cases h
  · unfold hasPrefA at h
    split at h
    · rename_i s p
      cases h
      refine ⟨rfl, _, rfl, ?_⟩
      obtain ⟨l⟩ := vs
      match l, hl with
      | [v0, v1], _ =>
        obtain rfl := rep_str (hr 0 _ v0 rfl rfl)
        obtain rfl := rep_str (hr 1 _ v1 rfl rfl)
        refine (hc s p w).mono fun e w' hq => ?_
        obtain ⟨he, rfl⟩ := hq
        exact ⟨_, he, .refl _ w', .bool _⟩
    · cases h

def Sp.strings_HasPrefix (s p : ByteArray) (γ : Type) (K : Bool → Option γ) : Option γ := K (Lib.hasPrefix s.data.toList p.data.toList)
abbrev Ty_strings_HasPrefix : Type 1 := ByteArray → ByteArray → (γ : Type) → (Bool → Option γ) → Option γ
def P_strings_HasPrefix (X : Ty_strings_HasPrefix) (F : Ent3) : Ent3 := fun a s γ K => match a, s with
  | [.dat (.str x), .dat (.str p)], [] => X x p γ fun r => K ([(.dat (.bool r), .none)], [])
  | a, s => F a s γ K
theorem E_strings_HasPrefix (hp : C.prim f = some hasPrefA) {F : Ent3} (hF : EntOk C f F) : EntOk C f (P_strings_HasPrefix Sp.strings_HasPrefix F) := by
  intro a s γ K q h
  unfold P_strings_HasPrefix at h
  split at h
  · exact ent_prim (S := fun a s γ K => (hasPrefA a s).bind K) (F := hasPrefA) hp (fun a s γ K q h => h) _ _ γ K q h
  · exact hF _ _ _ _ _ h

/-! strings.IndexByte -/

def idxByteA (args : List AVal) (sg : Sig) : Option (List Ent × Sig) :=
  match args, sg with
  | [.dat (.str s), .dat (.int .u8 c)], [] => some ([(.dat (.int .i64 (Lib.indexByte s.data.toList c.toNat.toUInt8)), .none)], [])
  | _, _ => none

theorem idxByteA_ok (hd : C.dr = false) (hc : ∀ s c w, Calls C.P f #[.string s, .int .u8 c] w fun e w' => e = .returned (.int .i64 (Lib.indexByte s.data.toList c.toNat.toUInt8)) ∧ w' = w) : CallAt C f idxByteA := by
  refine callAt_one hd (fun args sg rs sg' h => ?_) fun args sg rs sg' h w M vs hl hr hg => ?_
  · unfold idxByteA at h
    split at h
    · rfl
    · cases h
  · unfold idxByteA at h
    split at h
    · rename_i s c
      cases h
      refine ⟨rfl, _, rfl, ?_⟩
      obtain ⟨l⟩ := vs
      match l, hl with
      | [v0, v1], _ =>
        obtain rfl := rep_str (hr 0 _ v0 rfl rfl)
        obtain rfl := rep_int (hr 1 _ v1 rfl rfl)
        refine (hc s c w).mono fun e w' hq => ?_
        obtain ⟨he, rfl⟩ := hq
        exact ⟨_, he, .refl _ w', .int _ _⟩
    · cases h

def Sp.strings_IndexByte (s : ByteArray) (c : Int) (γ : Type) (K : Int → Option γ) : Option γ := K (Lib.indexByte s.data.toList c.toNat.toUInt8)
abbrev Ty_strings_IndexByte : Type 1 := ByteArray → Int → (γ : Type) → (Int → Option γ) → Option γ
def P_strings_IndexByte (X : Ty_strings_IndexByte) (F : Ent3) : Ent3 := fun a s γ K => match a, s with
  | [.dat (.str x), .dat (.int .u8 c)], [] => X x c γ fun r => K ([(.dat (.int .i64 r), .none)], [])
  | a, s => F a s γ K
theorem E_strings_IndexByte (hp : C.prim f = some idxByteA) {F : Ent3} (hF : EntOk C f F) : EntOk C f (P_strings_IndexByte Sp.strings_IndexByte F) := by
  intro a s γ K q h
  unfold P_strings_IndexByte at h
  split at h
  · exact ent_prim (S := fun a s γ K => (idxByteA a s).bind K) (F := idxByteA) hp (fun a s γ K q h => h) _ _ γ K q h
  · exact hF _ _ _ _ _ h

/-! strings.ReplaceAll -/

def replA (args : List AVal) (sg : Sig) : Option (List Ent × Sig) :=
  match args, sg with
  | [.dat (.str s), .dat (.str old), .dat (.str new)], [] =>
    cond (decide (s.size < 4294967281) && decide (1 ≤ old.size) && decide (s.size + Lib.countB s old * new.size ≤ 140737488355328))
      (some ([(.dat (.str ⟨(Lib.replaceAll s.data.toList old.data.toList new.data.toList).toArray⟩), .none)], [])) none
  | _, _ => none

theorem replA_ok (hd : C.dr = false) (hc : ∀ s old new w M, GlobOk C w M → s.size < 4294967281 → 1 ≤ old.size → s.size + Lib.countB s old * new.size ≤ 140737488355328 →
    Calls C.P f #[.string s, .string old, .string new] w fun e w' => e = .returned (.string ⟨(Lib.replaceAll s.data.toList old.data.toList new.data.toList).toArray⟩) ∧ Below w.heap.size w w') : CallAt C f replA := by
  refine callAt_one hd (fun args sg rs sg' h => ?_) fun args sg rs sg' h w M vs hl hr hg => ?_
  · unfold replA at h
    split at h
    · rfl
    · cases h
  · unfold replA at h
    split at h
    · rename_i s old new
      obtain ⟨h1, h2⟩ := cond_any h
      simp only [Bool.and_eq_true, decide_eq_true_eq] at h1
      cases h2
      refine ⟨rfl, _, rfl, ?_⟩
      obtain ⟨l⟩ := vs
      match l, hl with
      | [v0, v1, v2], _ =>
        obtain rfl := rep_str (hr 0 _ v0 rfl rfl)
        obtain rfl := rep_str (hr 1 _ v1 rfl rfl)
        obtain rfl := rep_str (hr 2 _ v2 rfl rfl)
        exact (hc s old new w M hg h1.1.1 h1.1.2 h1.2).mono fun e w' hq => ⟨_, hq.1, hq.2, .str _⟩
    · cases h

def Sp.strings_ReplaceAll (s old new : ByteArray) (γ : Type) (K : ByteArray → Option γ) : Option γ :=
  cond (decide (s.size < 4294967281) && decide (1 ≤ old.size) && decide (s.size + Lib.countB s old * new.size ≤ 140737488355328)) (K ⟨(Lib.replaceAll s.data.toList old.data.toList new.data.toList).toArray⟩) none
abbrev Ty_strings_ReplaceAll : Type 1 := ByteArray → ByteArray → ByteArray → (γ : Type) → (ByteArray → Option γ) → Option γ
def P_strings_ReplaceAll (X : Ty_strings_ReplaceAll) (F : Ent3) : Ent3 := fun a s γ K => match a, s with
  | [.dat (.str x), .dat (.str old), .dat (.str new)], [] => X x old new γ fun r => K ([(.dat (.str r), .none)], [])
  | a, s => F a s γ K
theorem E_strings_ReplaceAll (hp : C.prim f = some replA) {F : Ent3} (hF : EntOk C f F) : EntOk C f (P_strings_ReplaceAll Sp.strings_ReplaceAll F) := by
  intro a s γ K q h
  unfold P_strings_ReplaceAll at h
  split at h
  · rename_i x old new
    refine ent_prim (S := fun a s γ K => (replA a s).bind K) (F := replA) hp (fun a s γ K q h => h) _ _ γ K q ?_
    unfold Sp.strings_ReplaceAll at h
    obtain ⟨h1, h2⟩ := cond_any h
    simp only [replA, h1, cond_true]
    exact h2
  · exact hF _ _ _ _ _ h

/-! strings.Join -/

/-- rows of one text each -/
def strsOf : List (List Dat) → Option (List ByteArray)
  | [] => some []
  | [.str x] :: r => (strsOf r).map (x :: ·)
  | _ :: _ => none

theorem strsOf_get : ∀ {es : List (List Dat)} {xs : List ByteArray}, strsOf es = some xs → es = xs.map fun x => [.str x]
  | [], xs, h => by cases h; rfl
  | e :: r, xs, h => by
    unfold strsOf at h
    split at h
    · rename_i he; cases he
    · rename_i x r' he
      cases he
      rw [Option.map_eq_some_iff] at h
      obtain ⟨ys, h1, rfl⟩ := h
      rw [strsOf_get h1]; rfl
    · cases h

def joinA (args : List AVal) (sg : Sig) : Option (List Ent × Sig) :=
  match args, sg with
  | [.dat (.sl es), .dat (.str sep)], [] => (strsOf es).bind fun xs =>
    cond (decide (xs.length ≤ 140737488355328) && decide ((Lib.join (xs.map (·.data.toList)) sep.data.toList).length ≤ 140737488355328))
      (some ([(.dat (.str ⟨(Lib.join (xs.map (·.data.toList)) sep.data.toList).toArray⟩), .none)], [])) none
  | _, _ => none

theorem joinA_ok (hd : C.dr = false) (h0 : ∀ a c sep w, Calls C.P f #[.slice a 0 c, .string sep] w fun e w' => e = .returned (.string ⟨#[]⟩) ∧ w' = w)
    (hc : ∀ (bk o c : Nat) (xs : List ByteArray) (sep : ByteArray) (w : World), (∀ (j : Nat) x, xs[j]? = some x → w.cell? ⟨bk, o + j, none⟩ = some (.string x)) → bk < w.heap.size → xs.length ≤ 140737488355328 → xs.length ≤ c →
      (Lib.join (xs.map (·.data.toList)) sep.data.toList).length ≤ 140737488355328 →
      Calls C.P f #[.slice (some ⟨bk, o, none⟩) xs.length c, .string sep] w fun e w' => e = .returned (.string ⟨(Lib.join (xs.map (·.data.toList)) sep.data.toList).toArray⟩) ∧ Below w.heap.size w w') : CallAt C f joinA := by
  refine callAt_one hd (fun args sg rs sg' h => ?_) fun args sg rs sg' h w M vs hl hr hg => ?_
  · unfold joinA at h
    split at h
    · rfl
    · cases h
  · unfold joinA at h
    split at h
    · rename_i es sep
      rw [Option.bind_eq_some_iff] at h
      obtain ⟨xs, hx, h⟩ := h
      obtain ⟨h1, h2⟩ := cond_any h
      simp only [Bool.and_eq_true, decide_eq_true_eq] at h1
      cases h2
      refine ⟨rfl, _, rfl, ?_⟩
      obtain ⟨l⟩ := vs
      match l, hl with
      | [v0, v1], _ =>
        obtain rfl := rep_str (hr 1 _ v1 rfl rfl)
        have hes := strsOf_get hx
        cases xs with
        | nil =>
          subst hes
          have hv : ∃ a c, v0 = .slice a 0 c := by
            cases hr 0 _ v0 rfl rfl with
            | dat h =>
              cases h with
              | nilS => exact ⟨_, _, rfl⟩
              | sl vs hn => simp at hn; subst hn; exact ⟨_, _, rfl⟩
          obtain ⟨a, c, rfl⟩ := hv
          refine (h0 a c sep w).mono fun e w' hq => ?_
          obtain ⟨he, rfl⟩ := hq
          exact ⟨_, he, .refl _ w', .str _⟩
        | cons x xs =>
          have hv : ∃ bk o c, v0 = .slice (some ⟨bk, o, none⟩) (x :: xs).length c ∧ (x :: xs).length ≤ c ∧ c ≤ maxLen ∧ ∀ (j : Nat) y, (x :: xs)[j]? = some y → w.cell? ⟨bk, o + j, none⟩ = some (.string y) := by
            cases hr 0 _ v0 rfl rfl with
            | dat h =>
              cases h with
              | nilS => cases hes
              | @sl es a n cap size vs hn hcp hm hs he hcell hrr =>
                subst hes
                simp only [List.length_map] at hn
                subst hn
                obtain ⟨bk, o, sp⟩ := a
                have hsp : sp = none := hs (by simp)
                subst hsp
                have hsz : size = 1 := by
                  have := he [.str x] (by simp)
                  simpa using this.symm
                subst hsz
                refine ⟨bk, o, cap, rfl, hcp, hm, fun j y hy => ?_⟩
                have hlt : j < (x :: xs).length := (List.getElem?_eq_some_iff.1 hy).1
                have h3 := (hcell j (by omega)).1
                have h4 := hrr j 0 [.str y] (.str y) (by rw [List.getElem?_map, hy]; rfl) rfl
                simp only [Nat.mul_one, Nat.add_zero] at h4
                rw [addr_add] at h3
                generalize vs j = u at h3 h4
                cases h4
                exact h3
          obtain ⟨bk, o, c, rfl, hcp, hm, hcell⟩ := hv
          have hbk : bk < w.heap.size := by
            have := hcell 0 x rfl
            rcases Nat.lt_or_ge bk w.heap.size with h | h
            · exact h
            · simp [World.cell?, Array.getElem?_eq_none h] at this
          refine (hc bk o c (x :: xs) sep w hcell hbk h1.1 hcp h1.2).mono fun e w' hq => ⟨_, hq.1, hq.2, .str _⟩
    · cases h

def Sp.strings_Join (es : List (List Dat)) (sep : ByteArray) (γ : Type) (K : ByteArray → Option γ) : Option γ :=
  (strsOf es).bind fun xs => cond (decide (xs.length ≤ 140737488355328) && decide ((Lib.join (xs.map (·.data.toList)) sep.data.toList).length ≤ 140737488355328)) (K ⟨(Lib.join (xs.map (·.data.toList)) sep.data.toList).toArray⟩) none
abbrev Ty_strings_Join : Type 1 := List (List Dat) → ByteArray → (γ : Type) → (ByteArray → Option γ) → Option γ
def P_strings_Join (X : Ty_strings_Join) (F : Ent3) : Ent3 := fun a s γ K => match a, s with
  | [.dat (.sl es), .dat (.str sep)], [] => X es sep γ fun r => K ([(.dat (.str r), .none)], [])
  | a, s => F a s γ K
theorem E_strings_Join (hp : C.prim f = some joinA) {F : Ent3} (hF : EntOk C f F) : EntOk C f (P_strings_Join Sp.strings_Join F) := by
  intro a s γ K q h
  unfold P_strings_Join at h
  split at h
  · rename_i es sep
    refine ent_prim (S := fun a s γ K => (joinA a s).bind K) (F := joinA) hp (fun a s γ K q h => h) _ _ γ K q ?_
    unfold Sp.strings_Join at h
    rw [Option.bind_eq_some_iff] at h
    obtain ⟨xs, hx, h⟩ := h
    obtain ⟨h1, h2⟩ := cond_any h
    simp only [joinA, hx, Option.bind_some, h1, cond_true]
    exact h2
  · exact hF _ _ _ _ _ h

/-! strings.Split -/

def splitA (args : List AVal) (sg : Sig) : Option (List Ent × Sig) :=
  match args, sg with
  | [.dat (.str s), .dat (.str sep)], [] =>
    cond (decide (s.size < 4294967281) && decide (1 ≤ sep.size) && decide (Lib.countB s sep + 1 ≤ maxLen) && decide ((Lib.splitB sep 0 (Lib.countB s sep) s).length = Lib.countB s sep + 1))
      (some ([(.dat (.sl ((Lib.splitB sep 0 (Lib.countB s sep) s).map fun x => [.str x])), .none)], [])) none
  | _, _ => none

theorem splitA_ok {T : TypeId} (hd : C.dr = false) (hc : ∀ s sep w M, GlobOk C w M → s.size < 4294967281 → 1 ≤ sep.size →
    Calls C.P f #[.string s, .string sep] w fun e w' => e = .returned (.slice (some ⟨w.heap.size, 0, none⟩) (Lib.countB s sep + 1) (Lib.countB s sep + 1)) ∧ w' = w.alloc (.cells ((Lib.splitB sep 0 (Lib.countB s sep) s).map Value.string).toArray T)) : CallAt C f splitA := by
  intro args sg rs sg' h w M sm vs hl hr hs hg
  unfold splitA at h
  split at h
  · rename_i s sep
    have hsm : sm = [] := List.eq_nil_of_length_eq_zero hs.1.symm
    subst hsm
    obtain ⟨h1, h2⟩ := cond_any h
    simp only [Bool.and_eq_true, decide_eq_true_eq] at h1
    cases h2
    obtain ⟨⟨⟨g1, g2⟩, g3⟩, g4⟩ := h1
    obtain ⟨l⟩ := vs
    match l, hl with
    | [v0, v1], _ =>
      obtain rfl := rep_str (hr 0 _ v0 rfl rfl)
      obtain rfl := rep_str (hr 1 _ v1 rfl rfl)
      refine (hc s sep w M hg g1 g2).mono fun e w' hq => ?_
      obtain ⟨he, rfl⟩ := hq
      generalize hxs : Lib.splitB sep 0 (Lib.countB s sep) s = xs at g4
      rw [← g4] at he g3
      refine ⟨_, fun b => if b = w.heap.size then xs.length else M b, [], he, ?_, sigOk_nil _ _ _, [_], rfl, rfl, fun i e u he hu => ?_, fun i j e e' t t' n n' he he' h h' => ?_⟩
      · refine ⟨rfl, rfl, .refl C w, by show w.heap.size ≤ (w.heap.push _).size; simp, fun b hb _ => ?_, fun b hb => ?_, ⟨[], rfl, fun b hb => by cases hb⟩, fun i b k h => by simp at h⟩
        · exact heap_alloc_old w _ b hb
        · simp [Nat.ne_of_lt hb]
      · cases i with
        | zero =>
          simp only [List.getElem?_cons_zero, Option.some.injEq] at he hu
          subst he hu
          refine ⟨.dat (.sl (size := 1) (fun k => .string (xs.getD k ⟨#[]⟩)) (by simp) (Nat.le_refl _) g3 (fun _ => rfl) (fun e he => ?_) (fun k hk => ?_) (fun i j e d he hd => ?_)), trivial⟩
          · obtain ⟨x, _, rfl⟩ := List.mem_map.1 he; rfl
          · simp only [Nat.mul_one] at hk
            refine ⟨?_, ?_⟩
            · rw [addr_add, Nat.zero_add, cell_alloc]
              simp [List.getD_eq_getElem?_getD, hk]
            · show 0 + k < (if (w.heap.size : Nat) = w.heap.size then xs.length else M w.heap.size)
              rw [if_pos rfl]; omega
          · rw [List.getElem?_map, Option.map_eq_some_iff] at he
            obtain ⟨x, hx, rfl⟩ := he
            cases j with
            | zero =>
              simp only [List.getElem?_cons_zero, Option.some.injEq] at hd
              subst hd
              simp only [Nat.mul_one, Nat.add_zero, List.getD_eq_getElem?_getD, hx, Option.getD_some]
              exact .str _
            | succ j => simp at hd
        | succ i => simp at he
      · cases i with
        | zero =>
          simp only [List.getElem?_cons_zero, Option.some.injEq] at he
          subst he
          cases h
        | succ i => simp at he
  · cases h

def Sp.strings_Split (s sep : ByteArray) (γ : Type) (K : List (List Dat) → Option γ) : Option γ :=
  cond (decide (s.size < 4294967281) && decide (1 ≤ sep.size) && decide (Lib.countB s sep + 1 ≤ maxLen) && decide ((Lib.splitB sep 0 (Lib.countB s sep) s).length = Lib.countB s sep + 1))
    (K ((Lib.splitB sep 0 (Lib.countB s sep) s).map fun x => [.str x])) none
abbrev Ty_strings_Split : Type 1 := ByteArray → ByteArray → (γ : Type) → (List (List Dat) → Option γ) → Option γ
def P_strings_Split (X : Ty_strings_Split) (F : Ent3) : Ent3 := fun a s γ K => match a, s with
  | [.dat (.str x), .dat (.str sep)], [] => X x sep γ fun r => K ([(.dat (.sl r), .none)], [])
  | a, s => F a s γ K
theorem E_strings_Split (hp : C.prim f = some splitA) {F : Ent3} (hF : EntOk C f F) : EntOk C f (P_strings_Split Sp.strings_Split F) := by
  intro a s γ K q h
  unfold P_strings_Split at h
  split at h
  · rename_i x sep
    refine ent_prim (S := fun a s γ K => (splitA a s).bind K) (F := splitA) hp (fun a s γ K q h => h) _ _ γ K q ?_
    unfold Sp.strings_Split at h
    obtain ⟨h1, h2⟩ := cond_any h
    simp only [splitA, h1, cond_true]
    exact h2
  · exact hF _ _ _ _ _ h
end
end Go.Aev

end
section
/- slices.Clone and slices.Grow of no slice, at any program, as the evaluator sees them. -/
set_option linter.unusedVariables false
namespace Go.Aev
open Go.Proofs Go.Shelf Go.RowKit

section
variable {P : Program} {ρ : Ren}

set_option maxHeartbeats 1000000 in
/-- slices.Clone of a slice of no element, wherever it points -/
theorem clone_zero (L : SlLaysE0.n41 P ρ) (i0 : TypeInfo) (z : Value) (size bytes : Nat) (hi : P.info? (ρ.t 23) = some i0) (hz0 : i0.zero = some z) (hz1 : i0.size = size) (hz2 : i0.bytes = bytes) (hzs : z.cells.size = size) (hsz : 0 < size)
    (z23 : ∀ w, (Go.sizeOf (ρ.t 23)).run P w = .ok size w) (a : Addr) (c : Nat) (w : World) :
    Calls P (ρ.f 41) #[.slice (some a) 0 c] w fun e w' => ∃ v', e = .returned v' ∧ w'.ownsRow w.heap.size (ρ.t 23) size v' 0 [] ∧ Below w.heap.size w w' := by
  have mixed := L.mixed; have t4 := L.t4; have a4 := L.a4; have z4 := L.z4; have v4 := L.v4; have t22 := L.t22; have a22 := L.a22; have z22 := L.z22; have v22 := L.v22
  have q22 : ∀ (w : World) (a : Option Addr) (n c n' c' : Nat), (binOp .eql (ρ.t 22) (.slice a n c) (.slice none n' c')).run P w = .ok (.bool a.isNone) w := fun w a n c n' c' => Lib.run_eql_slice_nil w _ _ a n c n' c' L.t22
  have u22 : ∀ w, Sem.run P (underlying (ρ.t 22)) w = .ok (TypeDesc.slice (ρ.t 23)) w := run_underlying t22
  obtain ⟨_, _, FG⟩ := L.f41
  go_enter FG, SlBodyN.n41_ntmps ρ
  go_wp2_with (at_builtin; refine wpList_append_own _ rfl _ _ (ρ.t 22) rfl w.heap.size (ρ.t 23) i0 z size bytes t22 hi hz0 hz1 hz2 hzs hsz _ _ _ rfl (World.ownsRow_made w #[] 0 (Nat.le_refl _) (Nat.zero_le _) (by simp)) a 0 c [] rfl ?qc1 ?qc2 ?qc3 ?qc4 ?qc5 ?qc6 ?_)
  case qc1 => simp
  case qc2 => intro j u hj; simp at hj
  case qc3 => intro u hu; cases hu
  case qc4 => simp
  case qc5 => simp
  case qc6 => simp
  intro v' w1 hown hgrow hnil
  go_wp2
  go_ret
  exact ⟨v', rfl, by simpa using hown, ((Below.refl _ w).alloc (Nat.le_refl _) _).grown hgrow (by simp) (by intro k hk; simp [Value.ownBlock] at hk; omega)⟩
end

/-- slices.Clone -/
def cloneS (size bytes : Nat) : Ent3 := fun a sg γ K => match a, sg with
  | [.dat (.sl es)], [] => cond (sized es size && decide (es.length * bytes ≤ 140737488355328) && decide (es.length ≤ 140737488355328)) (K ([(.dat (.sl es), .id 0 size)], [])) none
  | _, _ => none

theorem cloneS_cps {size bytes : Nat} : CpsOk (cloneS size bytes) := by
  intro a sg γ K q h
  unfold cloneS at h
  split at h
  · obtain ⟨h1, h2⟩ := cond_any h
    exact ⟨_, by simp only [cloneS, h1, cond_true], h2⟩
  · cases h

/-- a row of a call's own, handed out -/
theorem own_out {C : Cfg} (hd : C.dr = false) {w w' : World} {M : Nat → Nat} {es : List (List Dat)} {size : Nat} {T : TypeId} {o : Own} (ho : o = .none ∨ o = .id 0 size) (hsz' : ∀ e ∈ es, e.length = size) {news : List Value}
    (hrep : ∀ (i j : Nat) e d, es[i]? = some e → e[j]? = some d → ∀ u, news[i * size + j]? = some u → Rep w M d u) {v' : Value} (hown : w'.ownsRow w.heap.size T size v' es.length news) (hbw : Below w.heap.size w w') :
    ∃ v M' sm', Ending.returned v' = Ending.returned v ∧ After C w w' M M' [] sm' ∧ SigOk C w' M' sm' [] ∧ RepRes w' M' sm' w.heap.size [(AVal.dat (.sl es), o)] v := by
  let M' : Nat → Nat := fun k => if w.heap.size ≤ k then es.length * size else M k
  have hM : ∀ k, k < w.heap.size → M' k = M k := fun k hk => if_neg (by omega)
  have hkeep : Keeps w w' M M' := keeps_of fun b hb _ => ⟨hbw.block b hb, by rw [hM b hb]; exact Nat.le_refl _⟩
  refine ⟨v', M', [], rfl, ⟨hbw.os, hbw.tape, ⟨hbw.output, fun e => by rw [hd] at e; cases e⟩, hbw.size, fun b hb _ => hbw.block b hb, fun b hb => hM b hb, ⟨[], rfl, fun b hb => by cases hb⟩, fun i b k h => by simp at h⟩, sigOk_nil C w' M', [v'], rfl, rfl, fun i e u he hu => ?_, fun i j e e' t t' n n' he he' h h' => ?_⟩
  · match i, he, hu with
    | 0, he, hu =>
      cases he; cases hu
      refine ⟨.dat ?_, ?_⟩
      · rcases hown.2 with ⟨rfl, h0⟩ | ⟨g, cap, cur, rfl, hg0, hg1, hnc, hcm, hcs, htake⟩
        · have : es = [] := List.eq_nil_of_length_eq_zero h0
          subst this
          exact .nilS
        · have hget : ∀ k, k < es.length * size → ∃ u, news[k]? = some u ∧ cur[k]? = some u := by
            intro k hk
            have hkl : k < news.length := by rw [hown.1]; exact hk
            refine ⟨news[k], List.getElem?_eq_getElem hkl, ?_⟩
            have : news[k]? = cur.toList[k]? := by rw [← htake, List.getElem?_take, if_pos hk]
            rw [← Array.getElem?_toList, ← this]
            exact List.getElem?_eq_getElem hkl
          refine .sl (size := size) (fun k => (news[k]?).getD undef) rfl hnc hcm (fun _ => rfl) hsz' (fun k hk => ?_) fun i j e d he hd => ?_
          · obtain ⟨u, h1, h2⟩ := hget k hk
            refine ⟨?_, ?_⟩
            · rw [show (Addr.add ⟨g, 0, none⟩ k) = ⟨g, k, none⟩ by rw [add_eq rfl, Nat.zero_add], cell_of_row w' g k cur _ _ hg1, h2, h1]
              rfl
            · show 0 + k < M' g
              rw [show M' g = es.length * size from if_pos hg0]; omega
          · have hi : i < es.length := (List.getElem?_eq_some_iff.1 he).1
            have hj : j < size := by
              have := (List.getElem?_eq_some_iff.1 hd).1
              rw [hsz' e (List.mem_of_getElem? he)] at this; exact this
            have hk : i * size + j < es.length * size := by
              have : (i + 1) * size ≤ es.length * size := Nat.mul_le_mul_right _ hi
              rw [Nat.add_mul] at this
              omega
            obtain ⟨u, h1, _⟩ := hget _ hk
            rw [h1]
            exact (hrep i j e d he hd u h1).mono hkeep
      · rcases ho with rfl | rfl
        · trivial
        rcases hown.2 with ⟨rfl, h0⟩ | ⟨g, cap, cur, rfl, hg0, hg1, hnc, hcm, hcs, htake⟩
        · exact .inl ⟨none, 0, rfl⟩
        · exact .inr ⟨g, es.length, cap, cur, _, rfl, hg1, hnc, hcm, hcs, if_pos hg0, hg0, by simp⟩
    | i + 1, he, _ => simp at he
  · have key : ∀ {i : Nat} {e : Ent}, [(AVal.dat (.sl es), o)][i]? = some e → i = 0 := by
      intro i e he
      cases i with
      | zero => rfl
      | succ i => simp at he
    rw [key he, key he']

/-- slices.Clone of what stands for elements -/
theorem clone_raw {P : Program} {ρ : Ren} (L : SlLaysE0.n41 P ρ) (i0 : TypeInfo) (z : Value) (size bytes : Nat) (hi : P.info? (ρ.t 23) = some i0) (hz0 : i0.zero = some z) (hz1 : i0.size = size) (hz2 : i0.bytes = bytes) (hzs : z.cells.size = size) (hsz : 0 < size)
    (z23 : ∀ w, (Go.sizeOf (ρ.t 23)).run P w = .ok size w) {w : World} {M : Nat → Nat} {es : List (List Dat)} {v : Value} (hv : Rep w M (.sl es) v) (hsz' : ∀ e ∈ es, e.length = size) (hb : es.length * bytes ≤ 140737488355328) (hlen : es.length ≤ 140737488355328) :
    Calls P (ρ.f 41) #[v] w fun e w' => ∃ v' news, e = .returned v' ∧ w'.ownsRow w.heap.size (ρ.t 23) size v' es.length news ∧ Below w.heap.size w w' ∧
      ∀ (i j : Nat) e d, es[i]? = some e → e[j]? = some d → ∀ u, news[i * size + j]? = some u → Rep w M d u := by
  have nocase : ∀ (i : Nat) (e : List Dat), ([] : List (List Dat))[i]? = some e → False := fun i e h => by simp at h
  cases hv with
  | nilS =>
    refine (AnyE.slices_Clone_nil L 0 0 w).mono ?_
    rintro e w' ⟨rfl, rfl⟩
    exact ⟨_, [], rfl, ⟨by simp, .inl ⟨rfl, rfl⟩⟩, .refl _ _, fun i j e d he => (nocase i e he).elim⟩
  | sl us hn hc hm hsp he hcell hrp =>
    subst hn
    rename_i a cap size'
    by_cases h0 : es.length = 0
    · have : es = [] := List.eq_nil_of_length_eq_zero h0
      subst this
      refine (clone_zero L i0 z size bytes hi hz0 hz1 hz2 hzs hsz z23 a cap w).mono ?_
      rintro e w' ⟨v', rfl, hown, hbw⟩
      exact ⟨v', [], rfl, hown, hbw, fun i j e d he => (nocase i e he).elim⟩
    · have hss : size' = size := by
        have hpos : 0 < es.length := by omega
        have hmem : es[0] ∈ es := List.getElem_mem hpos
        rw [← he _ hmem, hsz' _ hmem]
      subst hss
      obtain ⟨ab, ao, asp⟩ := a
      obtain rfl : asp = none := hsp (by omega)
      let news : List Value := (List.range (es.length * size')).map us
      have hnl : news.length = es.length * size' := by simp [news]
      have hnews : ∀ (j : Nat) u, news[j]? = some u → j < es.length * size' ∧ u = us j := fun j u hj => by
        have hjl : j < es.length * size' := by rw [← hnl]; exact (List.getElem?_eq_some_iff.1 hj).1
        refine ⟨hjl, ?_⟩
        simp only [news, List.getElem?_map, List.getElem?_range hjl, Option.map_some, Option.some.injEq] at hj
        exact hj.symm
      refine (AnyE.slices_Clone L i0 z size' bytes hi hz0 hz1 hz2 hzs hsz z23 ab ao es.length cap news w hnl (by unfold maxLen; omega) hb (fun j u hj => ?_) (fun u hu => ?_)).mono ?_
      · obtain ⟨hj1, rfl⟩ := hnews j u hj
        have := (hcell j hj1).1
        rw [add_eq rfl] at this
        exact this
      · obtain ⟨j, hj⟩ := List.getElem?_of_mem hu
        obtain ⟨hj1, rfl⟩ := hnews j u hj
        have hj2 : j / size' < es.length := (Nat.div_lt_iff_lt_mul hsz).2 hj1
        have he1 : es[j / size']? = some es[j / size'] := List.getElem?_eq_getElem hj2
        have hl1 : j % size' < es[j / size'].length := by rw [he _ (List.getElem_mem hj2)]; exact Nat.mod_lt _ hsz
        have := (hrp _ _ _ _ he1 (List.getElem?_eq_getElem hl1)).one
        rwa [Nat.div_add_mod'] at this
      · rintro e w' ⟨v', rfl, hown, _, hbw⟩
        refine ⟨v', news, rfl, hown, hbw, fun i j e d he hd u hu => ?_⟩
        obtain ⟨_, rfl⟩ := hnews _ _ hu
        exact hrp i j e d he hd

theorem cloneS_ok {C : Cfg} (hd : C.dr = false) {f : FuncId} {ρ : Ren} (L : SlLaysE0.n41 C.P ρ) (hf : ρ.f 41 = f) (i0 : TypeInfo) (z : Value) (size bytes : Nat) (hi : C.P.info? (ρ.t 23) = some i0) (hz0 : i0.zero = some z) (hz1 : i0.size = size) (hz2 : i0.bytes = bytes) (hzs : z.cells.size = size) (hsz : 0 < size)
    (z23 : ∀ w, (Go.sizeOf (ρ.t 23)).run C.P w = .ok size w) : CallAt C f (primS (cloneS size bytes)) := by
  subst hf
  intro args sg rs sg' h w M sm vs hl hr hs hg
  unfold primS cloneS at h
  split at h
  case h_2 => cases h
  rename_i es
  obtain ⟨h1, h2⟩ := cond_any h
  cases h2
  simp only [Bool.and_eq_true, decide_eq_true_eq] at h1
  obtain ⟨⟨hsized, hb⟩, hlen⟩ := h1
  have hsm : sm = [] := List.eq_nil_of_length_eq_zero hs.1.symm
  subst hsm
  obtain ⟨vl⟩ := vs
  match vl, hl with
  | [v], _ =>
  have hv := hr 0 _ v rfl rfl
  cases hv with
  | dat hv =>
  have hsz' : ∀ e ∈ es, e.length = size := fun e he => by simpa using (List.all_eq_true.1 hsized) e he
  refine (clone_raw L i0 z size bytes hi hz0 hz1 hz2 hzs hsz z23 hv hsz' hb hlen).mono ?_
  rintro e w' ⟨v', news, rfl, hown, hbw, hrep⟩
  exact own_out hd (.inr rfl) hsz' hrep hown hbw

/-- slices.Grow of no slice -/
theorem grow_ok {P : Program} {ρ : Ren} (L : Lays8.n4 P ρ) {g : FuncId} (hg : ρ.f 4 = g) (i0 : TypeInfo) (z : Value) (size bytes : Nat) (hi0 : P.info? (ρ.t 25) = some i0) (hz0 : i0.zero = some z) (hs0 : i0.size = size) (hb0 : i0.bytes = bytes) (hzs : z.cells.size = size) (hpos : 0 < size)
    (n : Nat) (w : World) (h : n * (bytes + 1) ≤ roomMax) :
    Calls P g #[.slice none 0 0, .int .i64 n] w fun e w' => (e = .returned (.slice none 0 0) ∧ w' = w) ∨
      ∃ cap cur T, e = .returned (.slice (some ⟨w.heap.size, 0, none⟩) 0 cap) ∧ w' = w.drew.alloc (.cells cur T) ∧ cap ≤ maxLen ∧ cur.size = cap * size := by
  subst hg
  have hn : n * (bytes + 1) ≤ 70368744177664 := h
  have hn1 : n ≤ n * (bytes + 1) := Nat.le_mul_of_pos_right n (by omega)
  by_cases h0 : n = 0
  · subst h0
    refine (Any8.slices_Grow_room L none 0 0 0 w (Nat.le_refl _) (by omega) (by omega) (by omega)).mono ?_
    rintro e w' ⟨rfl, rfl⟩
    exact .inl ⟨rfl, rfl⟩
  · have hnb : n * bytes ≤ n * (bytes + 1) := Nat.mul_le_mul_left _ (by omega)
    refine (Any8.slices_Grow_grow L i0 z hi0 hz0 (by omega) none 0 0 n [] w (Nat.le_refl _) (by omega) (by rw [hb0, Nat.zero_add]; omega) (by omega) (by simp) (fun _ => rfl) (fun a ha => by cases ha)).mono ?_
    rintro e w' ⟨rfl, rfl⟩
    refine .inr ⟨_, _, _, rfl, rfl, ?_, ?_⟩
    · exact grownCap_le_maxLen w (0 + n) 0 (ρ.t 25) (by unfold maxLen; omega)
    · have hge := grownCap_ge w (0 + n) 0 (ρ.t 25)
      simp only [Array.size_append, List.size_toArray, List.length_nil, size_zeroCells, hzs, Nat.zero_add, Nat.sub_zero]
      rw [← Nat.add_mul]
      congr 1
      rw [Nat.zero_add] at hge
      omega

end Go.Aev

end

/- A deep evaluator for the code of the model, and its soundness: part 3. -/
import Derived.Test.YtchijfnciadkkaaDoorAevB
import Derived.Below
import Derived.ChangeShapes
import Derived.ChangeArms
import Derived.Deep.Slices
import Derived.Lib.LaidTab
import Derived.FnData
section
/- A function's body, and calls to any depth. -/
namespace Go.Aev

section
variable {C : Cfg} {w0 : World} {M0 : Nat → Nat} {sm0 : List Nat} {g : Gh} {s : St} {a : Act} {w : World}

def resStep (tmps : Array Value) : ResultVar → Sem Value
  | .tmp t => pure (tmps.getD t undef)
  | .cell a t => do loadVar t (← asAddr (tmps.getD a undef))

theorem results_eq (fn : Func) (tmps : Array Value) : results fn tmps = (do
    let vs ← fn.results.mapM (resStep tmps)
    pure (if h : vs.size = 1 then vs[0] else .tuple vs)) := rfl

theorem loadA_ptr {β : Type} {ns : Bool} {t : TypeId} {p : AVal} {v : Value} {F : Ent → Option β} {r : β} (hp : RepA w g w0.heap.size p v) (h : loadA C ns s.lo s.sg t p F = some r) : ∃ ad, v = .pointer (some ad) := by
  unfold loadA at h
  split at h
  · split at h
    · obtain ⟨b, _, h⟩ := hp.loc_inv; exact ⟨_, h⟩
    · obtain ⟨a, vs, h, _⟩ := hp.imm_inv; exact ⟨_, h⟩
    · obtain ⟨b, _, h⟩ := hp.ref_inv; exact ⟨_, h⟩
    · cases h
  · cases h

theorem resultsA_run (hI : Inv C w0 M0 sm0 g s a w) : ∀ {l : List ResultVar} {K : List Ent → Option (List Ent × Sig)} {r : List Ent × Sig}, resultsA C s l K = some r →
    ∃ es vs, K es = some r ∧ (l.mapM (resStep a.tmps)).run C.P w = .ok vs w ∧ es.length = vs.length ∧ ∀ (i : Nat) e u, es[i]? = some e → vs[i]? = some u → RepE w g w0.heap.size e u
  | [], K, r, h => ⟨[], [], h, by simp, rfl, fun i e u he => by simp at he⟩
  | .tmp t :: l, K, r, h => by
    simp only [resultsA] at h
    obtain ⟨es, vs, h1, h2, h3, h4⟩ := resultsA_run hI h
    refine ⟨_, a.tmps.getD t undef :: vs, h1, ?_, by simp [h3], fun i e u he hu => ?_⟩
    · simp only [List.mapM_cons, resStep, Sem.run_bind, Sem.run_pure, Result.andThen_ok, h2]
    · cases i with
      | zero => simp only [List.getElem?_cons_zero, Option.some.injEq] at he hu; subst he hu; exact hI.ev (.tmp t)
      | succ i => exact h4 i e u (by simpa using he) (by simpa using hu)
  | .cell t ty :: l, K, r, h => by
    simp only [resultsA] at h
    have hr := (hI.ev (.tmp t)).1
    obtain ⟨ad, hv⟩ := loadA_ptr (C := C) (s := s) hr h
    obtain ⟨e0, u0, h5, h6, h7⟩ := load_run hI hr h
    obtain ⟨es, vs, h1, h2, h3, h4⟩ := resultsA_run hI h5
    have hv' : a.tmps.getD t undef = .pointer (some ad) := hv
    rw [hv] at h6
    have h8 : (loadVar ty ad).run C.P w = .ok u0 w := by
      simpa [Instr.loadAt, Instr.sureAddr] using h6
    refine ⟨_, u0 :: vs, h1, ?_, by simp [h3], fun i e u he hu => ?_⟩
    · simp only [List.mapM_cons, resStep, hv', asAddr, Sem.run_bind, Sem.run_pure, Result.andThen_ok, h2, h8]
    · cases i with
      | zero => simp at he hu; subst he hu; exact h7
      | succ i => exact h4 i e u (by simpa using he) (by simpa using hu)

theorem results_run (hI : Inv C w0 M0 sm0 g s a w) {fn : Func} {K : List Ent → Option (List Ent × Sig)} {r : List Ent × Sig} (h : resultsA C s fn.results.toList K = some r) :
    ∃ es vs v, K es = some r ∧ (results fn a.tmps).run C.P w = .ok v w ∧ (match vs with | [u] => v = u | _ => v = Value.tuple vs.toArray) ∧ es.length = vs.length ∧
      ∀ (i : Nat) e u, es[i]? = some e → vs[i]? = some u → RepE w g w0.heap.size e u := by
  obtain ⟨es, vs, h1, h2, h3, h4⟩ := resultsA_run hI h
  refine ⟨es, vs, if h : vs.toArray.size = 1 then vs.toArray[0] else Value.tuple vs.toArray, h1, ?_, ?_, h3, h4⟩
  · rw [results_eq]
    simp [Array.mapM_eq_mapM_toList, h2]
  · match vs with
    | [] => rfl
    | [u] => rfl
    | u :: u' :: vs => simp

/-- what a call of f does -/
def CallAt (C : Cfg) (f : FuncId) (F : List AVal → Sig → Option (List Ent × Sig)) : Prop :=
  ∀ args sg rs sg', F args sg = some (rs, sg') → ∀ (w : World) (M : Nat → Nat) (sm : List Nat) (vs : Array Value), args.length = vs.size →
    (∀ (i : Nat) x v, args[i]? = some x → vs[i]? = some v → RepB w M sm x v) → SigOk w M sm sg → GlobOk C w M →
    Calls C.P f vs w fun e w' => ∃ v M' sm', e = .returned v ∧ After w w' M M' sm sm' ∧ SigOk w' M' sm' sg' ∧ RepRes w' M' sm' w.heap.size rs v

theorem sigOk_take {M : Nat → Nat} {sm r : List Nat} {sg : Sig} (h : SigOk w M (sm ++ r) sg) : SigOk w M sm (sg.take sm.length) := by
  obtain ⟨h1, h2, h3⟩ := h
  refine ⟨by simp at h1 ⊢; omega, (List.nodup_append.1 h2).1, fun i b bx hi hb => ?_⟩
  have hlt : i < sm.length := (List.getElem?_eq_some_iff.1 hi).1
  rw [List.getElem?_take, if_pos hlt] at hb
  have := h3 i b bx (by rw [List.getElem?_append_left hlt]; exact hi) hb
  cases bx with
  | bld s => exact this
  | cells l =>
    obtain ⟨k1, cur, T, k2, k3, k4⟩ := this
    refine ⟨k1, cur, T, k2, k3, fun j a v ha hv => ⟨(k4 j a v ha hv).1, ?_⟩⟩
    have := (k4 j a v ha hv).2
    simp only [gh0] at this ⊢
    rw [List.take_append_of_le_length (by omega)] at this
    exact this

theorem outs_length : ∀ (l : List Ent), (outs l).length = l.length
  | [] => rfl
  | e :: l => by simp [outs, outs_length l]
theorem outs_get : ∀ {l : List Ent} {i : Nat} {e : Ent}, (outs l)[i]? = some e → ∃ e0, l[i]? = some e0 ∧ e = (stripA e0.1, .none)
  | [], i, e, h => by simp [outs] at h
  | e0 :: l, 0, e, h => by simp [outs] at h; exact ⟨e0, rfl, h.symm⟩
  | e0 :: l, i + 1, e, h => by simp only [outs, List.getElem?_cons_succ] at h ⊢; exact outs_get h

/-- the frame that is entered -/
theorem inv_enter {args : List AVal} {sg : Sig} {M : Nat → Nat} {sm : List Nat} {vs : Array Value} (n : Nat) (hl : args.length = vs.size) (hh : handsAll args = true)
    (hr : ∀ (i : Nat) x v, args[i]? = some x → vs[i]? = some v → RepB w M sm x v) (hs : SigOk w M sm sg) (hg : GlobOk C w M) :
    Done C w M sm { tm := args.map (stripA · , .none) ++ List.replicate (n - args.length) (.undef, .none), lo := List.replicate n none, sg := sg } { tmps := vs ++ Array.replicate (n - vs.size) undef, defers := [] } w := by
  refine ⟨{ M := M, R := fun b => if b ∈ sm then .sig (sm.idxOf b) else .imm, lm := fun _ => none, sm := sm, og := fun _ => undef }, rfl, rfl, rfl, Nat.le_refl _, fun _ _ _ => rfl, fun _ _ => rfl, ⟨[], by simp, fun b hb => by cases hb⟩, rfl, ?_, ?_, ?_, ?_, hs.1, ?_, ?_⟩
  · simp [hl]
  · intro t e v he hv
    simp only [List.getElem?_append, List.length_map] at he
    simp only [Array.getElem?_append] at hv
    split at he
    · rename_i hlt
      rw [if_pos (by omega)] at hv
      rw [List.getElem?_map, Option.map_eq_some_iff] at he
      obtain ⟨x, hx, rfl⟩ := he
      have := hr t x v hx hv
      exact ⟨.b (strip_rep (g := { M := M, R := fun b => if b ∈ sm then .sig (sm.idxOf b) else .imm, lm := fun _ => none, sm := sm, og := fun _ => undef }) (base := w.heap.size) (.b this) (handsAll_get hh hx)), trivial⟩
    · rename_i hlt
      rw [if_neg (by omega)] at hv
      rw [List.getElem?_replicate] at he
      rw [Array.getElem?_replicate] at hv
      split at he <;> cases he
      split at hv <;> cases hv
      exact ⟨.undef, trivial⟩
  · intro t
    simp only [List.getD_eq_getElem?_getD, List.getElem?_replicate]
    split <;> simp
  · intro t b cells h; cases h
  · intro i b bx hi hb
    refine ⟨?_, ?_⟩
    · have hm : b ∈ sm := List.mem_of_getElem? hi
      have hlt : i < sm.length := (List.getElem?_eq_some_iff.1 hi).1
      have : sm.idxOf b = i := by
        obtain ⟨_, rfl⟩ := List.getElem?_eq_some_iff.1 hi
        exact hs.2.1.idxOf_getElem i hlt
      simp only [if_pos hm, this]
    · have := hs.2.2 i b bx hi hb
      cases bx with
      | bld s => exact this
      | cells l => exact this
  · intro i cells hc
    cases hg i cells hc with
    | imm vs h1 h2 h3 => exact .imm vs h1 h2 h3

theorem stOk_enter {args : List AVal} (hh : handsAll args = true) (n : Nat) (lo : List (Option (List Ent))) (sg : Sig) : StOk { tm := args.map (stripA · , .none) ++ List.replicate n (.undef, .none), lo := lo, sg := sg } := by
  intro t e he
  simp only [List.getElem?_append] at he
  split at he
  · rw [List.getElem?_map, Option.map_eq_some_iff] at he
    obtain ⟨x, hx, rfl⟩ := he
    have := handsAll_get hh hx
    refine okV_hands ?_
    cases x <;> first | rfl | cases this
  · rw [List.getElem?_replicate] at he
    split at he <;> cases he
    exact okV_undef _

theorem row_fresh (hI : Inv C w0 M0 sm0 g s a w) {t n : Nat} {v : Value} (h : OwnOk w g w0.heap.size (.id t n) v) : FreshRow w g.M g.sm w0.heap.size n v := by
  obtain ⟨_, h | ⟨b, m, cap, cur, T, e1, e2, e3, e4, e5, e6, e7, e8⟩⟩ := h
  · exact .inl h
  · refine .inr ⟨b, m, cap, cur, T, e1, e2, e3, e4, e5, e6, e8, fun hb => ?_⟩
    obtain ⟨i, hi⟩ := List.getElem?_of_mem hb
    have hlt : i < s.sg.length := by rw [hI.sglen]; exact (List.getElem?_eq_some_iff.1 hi).1
    have := (hI.sg i b _ hi (List.getElem?_eq_getElem hlt)).1
    rw [e7] at this
    cases this

theorem evF_sound (hC : CfgOk C) {call : CallFn} (hcall : CallOK C call) {f : FuncId} {lp : LoopFn} (hlp : ∀ F v r, lp F v = some r → ∃ n, evN.iterN F n v = some r) : CallAt C f (evF C call lp f) := by
  intro args sg rs sg' h w M sm vs hl hr hs hg
  unfold evF at h
  split at h
  · cases h
  · rename_i fn hfn
    split at h
    · cases h
    · rename_i body hbody
      obtain ⟨hh, h⟩ := cond_any h
      obtain ⟨ex, s', h1, _, _, h4⟩ := evC_sound hC hcall hlp body h (stOk_enter hh _ _ _)
      refine calls_of_wp hfn hbody (h4 w M sm _ _ w (fun a' w' hD' => ?_) (by have := inv_enter fn.ntmps hl hh hr hs hg; exact this))
      obtain ⟨g, hI⟩ := hD'
      have main : ∀ {K : List Ent → Option (List Ent × Sig)}, resultsA C s' fn.results.toList K = some (rs, sg') → (K = fun rs => cond (handsAll (rs.map (·.1)))
            (outsOwn (C.ownRes f) rs fun rs => some (rs, cond (fn.resultTypes.toList.all (plainT C.P) && plainL (rs.map (·.1))) (s'.sg.take sg.length) s'.sg)) none) →
          a'.defers = [] ∧ ∃ v, (results fn a'.tmps).run C.P w' = .ok v w' ∧ (∃ v' M' sm', Ending.returned v = .returned v' ∧ After w w' M M' sm sm' ∧ SigOk w' M' sm' sg' ∧ RepRes w' M' sm' w.heap.size rs v') := by
        intro K hk hK
        subst hK
        obtain ⟨es, us, v, k1, k2, k3, k4, k5⟩ := results_run hI hk
        refine ⟨hI.defers, v, k2, v, g.M, ?_⟩
        obtain ⟨k6, k7⟩ := cond_any k1
        -- the entries that go out
        have houts : ∃ rs', (∀ {F : List Ent → Option (List Ent × Sig)} {r}, outsOwn (C.ownRes f) es F = some r → F rs' = some r) ∧ rs'.length = us.length ∧
            (∀ (i : Nat) e u, rs'[i]? = some e → us[i]? = some u → RepB w' g.M g.sm e.1 u ∧ MarkRes w' g.M g.sm w.heap.size e.2 u) ∧
            ∀ (i j : Nat) (e e' : Ent) (t t' n n' : Nat), rs'[i]? = some e → rs'[j]? = some e' → e.2 = .id t n → e'.2 = .id t' n' → i = j := by
          have hget : ∀ (i : Nat) e u, (outs es)[i]? = some e → us[i]? = some u → RepB w' g.M g.sm e.1 u ∧ e.2 = .none := by
            intro i e u he hu
            obtain ⟨e0, he0, rfl⟩ := outs_get he
            refine ⟨strip_rep (k5 i e0 u he0 hu).1 (handsAll_get k6 (by rw [List.getElem?_map, he0]; rfl)), rfl⟩
          cases ho : C.ownRes f with
          | none =>
            refine ⟨outs es, fun h => h, by rw [outs_length, k4], fun i e u he hu => ?_, fun i j e e' t t' n n' he _ h _ => ?_⟩
            · obtain ⟨q1, q2⟩ := hget i e u he hu
              exact ⟨q1, by rw [q2]; trivial⟩
            · obtain ⟨e0, _, rfl⟩ := outs_get he
              cases h
          | some p =>
            obtain ⟨i0, m0⟩ := p
            have hmark : (∃ es0 o, es[i0]? = some (.dat (.sl es0), o) ∧ ∀ u, us[i0]? = some u → FreshRow w' g.M g.sm w.heap.size m0 u) ∧ ∀ {F : List Ent → Option (List Ent × Sig)} {r}, outsOwn (some (i0, m0)) es F = some r → F (markAt i0 (.id 0 m0) (outs es)) = some r := by
              rw [ho] at k7
              unfold outsOwn at k7
              simp only at k7
              split at k7
              · rename_i es0 t m he0
                obtain ⟨q1, q2⟩ := cond_any k7
                have q1 : m0 = m := by simpa using q1
                subst q1
                refine ⟨⟨_, _, he0, fun u hu => row_fresh hI (k5 i0 _ u he0 hu).2⟩, fun {F r} h => ?_⟩
                unfold outsOwn at h
                simp only [he0] at h
                exact (cond_any h).2
              · rename_i es0 he0
                refine ⟨⟨_, _, he0, fun u hu => .inl ((k5 i0 _ u he0 hu).2)⟩, fun {F r} h => ?_⟩
                unfold outsOwn at h
                simp only [he0] at h
                exact (cond_any h).2
              · cases k7
            obtain ⟨⟨es0, o0, he0, hfr⟩, hF⟩ := hmark
            refine ⟨markAt i0 (.id 0 m0) (outs es), hF, by rw [markAt_length, outs_length, k4], fun i e u he hu => ?_, fun i j e e' t t' n n' he he' h h' => ?_⟩
            · rw [markAt_get] at he
              split at he
              · rename_i hi
                subst hi
                rw [Option.map_eq_some_iff] at he
                obtain ⟨e1, he1, rfl⟩ := he
                exact ⟨(hget i0 e1 u he1 hu).1, hfr u hu⟩
              · obtain ⟨q1, q2⟩ := hget i e u he hu
                exact ⟨q1, by rw [q2]; trivial⟩
            · have key : ∀ {i : Nat} {e : Ent} {t n : Nat}, (markAt i0 (.id 0 m0) (outs es))[i]? = some e → e.2 = .id t n → i0 = i := by
                intro i e t n he h
                rw [markAt_get] at he
                split at he
                · assumption
                · obtain ⟨e0, _, rfl⟩ := outs_get he
                  cases h
              exact (key he h).symm.trans (key he' h')
        obtain ⟨rs', hF, hrl, hrr, hru⟩ := houts
        have k8 := hF k7
        simp only [Option.some.injEq, Prod.mk.injEq] at k8
        obtain ⟨rfl, hsg⟩ := k8
        have hA : After w w' M g.M sm g.sm := ⟨hI.os, hI.tape, hI.output, hI.hsize, hI.frame, hI.fm, hI.smp⟩
        cases ht : (fn.resultTypes.toList.all (plainT C.P) && plainL (rs'.map (·.1))) with
        | false =>
          rw [ht, cond_false] at hsg
          subst hsg
          exact ⟨g.sm, rfl, hA, hI.sigOk, us, k3, hrl, hrr, hru⟩
        | true =>
          rw [ht, cond_true] at hsg
          subst hsg
          simp only [Bool.and_eq_true] at ht
          obtain ⟨r, hr1, hr2⟩ := hI.smp
          have hSig := hI.sigOk
          rw [hr1] at hSig
          have hsl : sg.length = sm.length := hs.1
          rw [hsl]
          refine ⟨sm, rfl, ⟨hI.os, hI.tape, hI.output, hI.hsize, hI.frame, hI.fm, ⟨[], by simp, fun b hb => by cases hb⟩⟩, sigOk_take hSig, us, k3, hrl, fun i e u he hu => ?_, hru⟩
          obtain ⟨q1, q2⟩ := hrr i e u he hu
          refine ⟨plainB q1 (plainL_get ht.2 (by rw [List.getElem?_map, he]; rfl)), ?_⟩
          cases ho : e.2 with
          | none => trivial
          | full => rw [ho] at q2; exact q2
          | id t n =>
            rw [ho] at q2
            rcases q2 with q2 | ⟨b, n, cap, cur, T, e1, e2, e3, e4, e5, e6, e7, e8⟩
            · exact .inl q2
            · exact .inr ⟨b, n, cap, cur, T, e1, e2, e3, e4, e5, e6, e7, fun hb => e8 (by rw [hr1]; simp [hb])⟩
      cases ex with
      | exit i => cases h1
      | normal => exact main h1 rfl
      | ret => exact main h1 rfl
  
end

/-! ### limits -/

open Classical in
noncomputable def lim {α : Type} (F : Nat → Option α) : Option α := if h : ∃ n r, F n = some r then F h.choose else none

theorem lim_some {α : Type} {F : Nat → Option α} {r : α} (h : lim F = some r) : ∃ n, F n = some r := by
  unfold lim at h
  split at h
  · exact ⟨_, h⟩
  · cases h

theorem mono_le {α : Type} {F : Nat → Option α} (hm : ∀ n r, F n = some r → F (n + 1) = some r) {n : Nat} {r : α} (h : F n = some r) : ∀ k, F (n + k) = some r
  | 0 => h
  | k + 1 => hm _ _ (mono_le hm h k)

theorem lim_of {α : Type} {F : Nat → Option α} (hm : ∀ n r, F n = some r → F (n + 1) = some r) {n : Nat} {r : α} (h : F n = some r) : lim F = some r := by
  have hex : ∃ n r, F n = some r := ⟨n, r, h⟩
  unfold lim
  rw [dif_pos hex]
  obtain ⟨r', hr'⟩ := hex.choose_spec
  have h1 := mono_le hm hr' n
  have h2 := mono_le hm h hex.choose
  rw [Nat.add_comm] at h2
  rw [hr', ← h1, h2]

/-- the rounds of a loop -/
noncomputable def iterL : LoopFn := fun F v => lim fun n => evN.iterN F n v

theorem iterN_mono {F : Vars → Option (Ex × Vars)} : ∀ (n : Nat) (v : Vars) (r : Ex × Vars), evN.iterN F n v = some r → evN.iterN F (n + 1) v = some r
  | 0, v, r, h => by cases h
  | n + 1, v, r, h => by
    rw [evN.iterN, Option.bind_eq_some_iff] at h ⊢
    obtain ⟨⟨e, v'⟩, h1, h2⟩ := h
    refine ⟨(e, v'), h1, ?_⟩
    cases e with
    | normal => exact iterN_mono n v' r h2
    | exit i => exact h2
    | ret => exact h2

theorem iterL_some (F : Vars → Option (Ex × Vars)) (v : Vars) (r : Ex × Vars) (h : iterL F v = some r) : ∃ n, evN.iterN F n v = some r := lim_some h

theorem iterL_of {F : Vars → Option (Ex × Vars)} {n : Nat} {v : Vars} {r : Ex × Vars} (h : evN.iterN F n v = some r) : iterL F v = some r := lim_of (fun n r h => iterN_mono n v r h) h

theorem iterL_step {F : Vars → Option (Ex × Vars)} {v : Vars} {e : Ex} {v' : Vars} (h : F v = some (e, v')) : iterL F v = (match e with
    | .normal => iterL F v'
    | _ => some (e, v')) := by
  cases e with
  | normal =>
    simp only
    cases h2 : iterL F v' with
    | some r =>
      obtain ⟨n, hn⟩ := iterL_some _ _ _ h2
      exact iterL_of (n := n + 1) (by rw [evN.iterN, h]; exact hn)
    | none =>
      cases h3 : iterL F v with
      | none => rfl
      | some r =>
        obtain ⟨n, hn⟩ := iterL_some _ _ _ h3
        cases n with
        | zero => cases hn
        | succ n =>
          rw [evN.iterN, h] at hn
          rw [iterL_of (n := n) hn] at h2
          cases h2
  | exit i => exact iterL_of (n := 1) (by rw [evN.iterN, h]; rfl)
  | ret => exact iterL_of (n := 1) (by rw [evN.iterN, h]; rfl)

/-- calls so deep -/
noncomputable def callN (C : Cfg) : Nat → CallFn
  | 0, _, _, _ => none
  | k + 1, f, args, sg => match C.prim f with
    | some g => g args sg
    | none => evF C (callN C k) iterL f args sg

/-- calls -/
noncomputable def callL (C : Cfg) : CallFn := fun f args sg => lim fun n => callN C n f args sg

section
variable {C : Cfg}

theorem callN_ok (hC : CfgOk C) (hp : ∀ f F, C.prim f = some F → CallAt C f F) : ∀ n, CallOK C (callN C n)
  | 0 => fun f args sg rs sg' h => by cases h
  | n + 1 => fun f => by
    show CallAt C f (callN C (n + 1) f)
    intro args sg rs sg' h
    simp only [callN] at h
    split at h
    · rename_i F hF
      exact hp f F hF args sg rs sg' h
    · exact evF_sound hC (callN_ok hC hp n) iterL_some args sg rs sg' h

theorem callL_ok (hC : CfgOk C) (hp : ∀ f F, C.prim f = some F → CallAt C f F) : CallOK C (callL C) := fun f args sg rs sg' h => by
  obtain ⟨n, hn⟩ := lim_some h
  exact callN_ok hC hp n f args sg rs sg' hn

end
end Go.Aev

end
section
/- What a piece of code asks of the calls that it makes. -/
namespace Go.Aev

abbrev Fact := FuncId × List AVal × Sig × (List Ent × Sig)

def Meets (call : CallFn) (T : List Fact) : Prop := ∀ t ∈ T, call t.1 t.2.1 t.2.2.1 = some t.2.2.2

theorem meets_nil (call : CallFn) : Meets call [] := fun t ht => by cases ht
theorem meets_app {call : CallFn} {T U : List Fact} : Meets call (T ++ U) ↔ Meets call T ∧ Meets call U :=
  ⟨fun h => ⟨fun t ht => h t (by simp [ht]), fun t ht => h t (by simp [ht])⟩, fun h t ht => by
    rcases List.mem_append.1 ht with ht | ht
    · exact h.1 t ht
    · exact h.2 t ht⟩

section
variable {β : Type} {r : β} {C : Cfg} {call : CallFn} {f : FuncId}

theorem callA_use {ns : Bool} {sg : Sig} {dst : Option Nat} {g : FuncId} {args : List AVal} {K : Dl → Option β} (h : callA C call ns sg dst g args K = some r) :
    ∃ T, Meets call T ∧ ∀ call', Meets call' T → ∀ (γ : Type) (G : Dl → Option γ), callA C call' ns sg dst g args G = callA C call ns sg dst g args G := by
  unfold callA at h
  split at h
  · rename_i fn dt hfn
    cases hh : (!handsAll args || fn.body.isNone) with
    | true => rw [hh] at h; cases h
    | false =>
      rw [hh, cond_false] at h
      cases hpl : (plainL args && fn.resultTypes.toList.all (plainT C.P)) with
      | true =>
        rw [hpl, cond_true] at h
        simp only [Option.bind_eq_some_iff] at h
        obtain ⟨res, hc, h⟩ := h
        refine ⟨[(g, args.map stripA, [], res)], fun t ht => by rw [List.mem_singleton] at ht; subst ht; exact hc, fun call' hm γ G => ?_⟩
        have hc' : call' g (args.map stripA) [] = some res := hm _ List.mem_cons_self
        simp only [callA, hfn, hh, hpl, hc, hc', cond_true, cond_false]
      | false =>
        rw [hpl, cond_false] at h
        cases hns : (ns || (C.ownRes g).isSome) with
        | true => rw [hns] at h; cases h
        | false =>
          rw [hns, cond_false] at h
          simp only [Option.bind_eq_some_iff] at h
          obtain ⟨res, hc, h⟩ := h
          refine ⟨[(g, args.map stripA, sg, res)], fun t ht => by rw [List.mem_singleton] at ht; subst ht; exact hc, fun call' hm γ G => ?_⟩
          have hc' : call' g (args.map stripA) sg = some res := hm _ List.mem_cons_self
          simp only [callA, hfn, hh, hpl, hns, hc, hc', cond_false]
  · cases h

theorem evD_use {ns : Bool} {ev : Operand → Ent} {lo : List (Option (List Ent))} {sg : Sig} {o : Oper} {K : Dl → Option β} (h : evD C call f ns ev lo sg o K = some r) :
    ∃ T, Meets call T ∧ ∀ call', Meets call' T → ∀ (γ : Type) (G : Dl → Option γ), evD C call' f ns ev lo sg o G = evD C call f ns ev lo sg o G := by
  cases hop : o.op
  case call c =>
    unfold evD at h ⊢
    simp only [hop] at h ⊢
    split at h
    · exact ⟨[], meets_nil _, fun _ _ _ _ => rfl⟩
    · exact ⟨[], meets_nil _, fun _ _ _ _ => rfl⟩
    · exact ⟨[], meets_nil _, fun _ _ _ _ => rfl⟩
    · exact ⟨[], meets_nil _, fun _ _ _ _ => rfl⟩
    · rename_i fo hfo
      split at h
      · rename_i g first caps hev
        obtain ⟨h1, h2⟩ := cond_any h
        obtain ⟨T, h3, h4⟩ := callA_use h2
        refine ⟨T, h3, fun call' hm γ G => ?_⟩
        rw [h1, cond_true]
        exact h4 call' hm γ G
      · cases h
    · cases h
  all_goals exact ⟨[], meets_nil _, fun _ _ _ _ => by unfold evD; simp only [hop]⟩

theorem evOp_use {ns : Bool} {s : St} {o : Oper} {K : St → Option β} (h : evOp C call f ns s o K = some r) :
    ∃ T, Meets call T ∧ ∀ call', Meets call' T → ∀ (γ : Type) (G : St → Option γ), evOp C call' f ns s o G = evOp C call f ns s o G := by
  obtain ⟨T, h1, h2⟩ := evD_use h
  exact ⟨T, h1, fun call' hm γ G => h2 call' hm γ _⟩

theorem evOper_use {ns : Bool} {ops : Array Oper} {s : St} {o : Oper} {K : St → Option β} (h : evOper C call f ns ops s o K = some r) :
    ∃ T, Meets call T ∧ ∀ call', Meets call' T → ∀ (γ : Type) (G : St → Option γ), evOper C call' f ns ops s o G = evOper C call f ns ops s o G := by
  unfold evOper at h
  split at h
  · rename_i hg
    obtain ⟨T, h1, h2⟩ := evOp_use h
    exact ⟨T, h1, fun call' hm γ G => by simp only [evOper, hg]; exact h2 call' hm γ G⟩
  · rename_i j want hg
    split at h
    · rename_i hj
      exact ⟨[], meets_nil _, fun call' hm γ G => by simp only [evOper, hg, hj]⟩
    · rename_i d hj
      split at h
      · rename_i b ow hd
        cases b with
        | true =>
          simp only [cond_true] at h
          cases want with
          | true =>
            simp only [cond_true] at h
            obtain ⟨T, h1, h2⟩ := evOp_use h
            exact ⟨T, h1, fun call' hm γ G => by simp only [evOper, hg, hj, hd, cond_true]; exact h2 call' hm γ G⟩
          | false => exact ⟨[], meets_nil _, fun call' hm γ G => by simp only [evOper, hg, hj, hd, cond_true, cond_false]⟩
        | false =>
          simp only [cond_false] at h
          cases want with
          | true => exact ⟨[], meets_nil _, fun call' hm γ G => by simp only [evOper, hg, hj, hd, cond_true, cond_false]⟩
          | false =>
            simp only [cond_false] at h
            obtain ⟨T, h1, h2⟩ := evOp_use h
            exact ⟨T, h1, fun call' hm γ G => by simp only [evOper, hg, hj, hd, cond_false]; exact h2 call' hm γ G⟩
      · rename_i hd
        exact ⟨[], meets_nil _, fun call' hm γ G => by simp only [evOper, hg, hj, hd]⟩
      · cases h

theorem evOps_use {ops : Array Oper} {ns : Nat → Bool} : ∀ {l : List Oper} {i : Nat} {s : St} {β : Type} {K : St → Option β} {r : β}, evOps C call f ops ns i l s K = some r →
    ∃ s' T, K s' = some r ∧ (∀ (γ : Type) (G : St → Option γ), evOps C call f ops ns i l s G = G s') ∧ Meets call T ∧
      ∀ call', Meets call' T → ∀ (γ : Type) (G : St → Option γ), evOps C call' f ops ns i l s G = G s'
  | [], i, s, β, K, r, h => ⟨s, [], h, fun _ _ => rfl, meets_nil _, fun _ _ _ _ => rfl⟩
  | o :: l, i, s, β, K, r, h => by
    simp only [evOps] at h
    obtain ⟨T, h1, h2⟩ := evOper_use h
    obtain ⟨s1, _, h3, h4⟩ := evOper_all h
    obtain ⟨s2, U, h5, h6, h7, h8⟩ := evOps_use h3
    refine ⟨s2, T ++ U, h5, fun γ G => ?_, meets_app.2 ⟨h1, h7⟩, fun call' hm γ G => ?_⟩
    · simp only [evOps]; rw [h4, h6]
    · have hm' := meets_app.1 hm
      simp only [evOps]
      rw [h2 call' hm'.1, h4, h8 call' hm'.2]

theorem evReg_use {id : Nat} {ops : Array Oper} {draw : Bool} {s : St} {K : St → Option β} (h : evReg C call f id ops draw s K = some r) :
    ∃ s' T, K s' = some r ∧ (∀ (γ : Type) (G : St → Option γ), evReg C call f id ops draw s G = G s') ∧ Meets call T ∧
      ∀ call', Meets call' T → ∀ (γ : Type) (G : St → Option γ), evReg C call' f id ops draw s G = G s' := by
  unfold evReg at h
  dsimp only at h
  cases hd : (draw && !drawOk C f ops (befores ops.toList)) with
  | true => rw [hd] at h; cases h
  | false =>
    rw [hd, cond_false] at h
    cases hj : C.join f id with
    | true =>
      rw [hj, cond_true] at h
      split at h
      · rename_i o hlast
        split at h
        · rename_i d hdst
          obtain ⟨hq, h⟩ := cond_any h
          rw [Option.bind_eq_some_iff] at h
          obtain ⟨e, h1, h2⟩ := h
          obtain ⟨s1, T, h3, h4, h5, h6⟩ := evOps_use h1
          cases h3
          obtain ⟨e', h7, h8⟩ := decVal_any (γ := Ent) h2
          have hall : ∀ (γ : Type) (G : Ent → Option γ), decVal C.P o.type ((s1.tm.getD d (.junk, .none)).1, .none) G = G e' := by
            intro γ G
            obtain ⟨e2, h9, h10⟩ := decVal_any (γ := γ) (h7 some)
            cases h10
            exact h9 G
          refine ⟨_, T, h8, fun γ G => ?_, h5, fun call' hm γ G => ?_⟩
          · unfold evReg
            dsimp only
            simp only [hd, hj, cond_false, cond_true, hlast, hdst, hq]
            rw [h4, Option.bind_some, hall]
          · unfold evReg
            dsimp only
            simp only [hd, hj, cond_false, cond_true, hlast, hdst, hq]
            rw [h6 call' hm, Option.bind_some, hall]
        · cases h
      · cases h
    | false =>
      rw [hj, cond_false] at h
      obtain ⟨s1, T, h3, h4, h5, h6⟩ := evOps_use h
      refine ⟨s1, T, h3, fun γ G => ?_, h5, fun call' hm γ G => ?_⟩
      · unfold evReg
        dsimp only
        simp only [hd, hj, cond_false]
        exact h4 γ G
      · unfold evReg
        dsimp only
        simp only [hd, hj, cond_false]
        exact h6 call' hm γ G

theorem packV_all {L : LoopCfg} {s : St} {K : Vars → Option β} (h : packV L s K = some r) : ∃ v, (∀ (γ : Type) (G : Vars → Option γ), packV L s G = G v) ∧ K v = some r := by
  obtain ⟨v, h1, h2⟩ := packV_any (γ := Vars) h
  refine ⟨v, fun γ G => ?_, h2⟩
  obtain ⟨v', h3, h4⟩ := packV_any (γ := γ) (h1 some)
  cases h4
  exact h3 G

theorem unpackV_all {L : LoopCfg} {s : St} {v : Vars} {K : St → Option β} (h : unpackV C L s v K = some r) : ∃ s1, (∀ (γ : Type) (G : St → Option γ), unpackV C L s v G = G s1) ∧ K s1 = some r := by
  obtain ⟨s1, h1, h2⟩ := unpackV_any (γ := St) h
  refine ⟨s1, fun γ G => ?_, h2⟩
  obtain ⟨v', h3, h4⟩ := unpackV_any (γ := γ) (h1 some)
  cases h4
  exact h3 G

theorem onEx_all {e : Ex} {s : St} : ∀ {ids : List Nat} {F : Ex → Option β}, onEx e ids F = some r → F e = some r ∧ ∀ (γ : Type) (G : Ex → Option γ), onEx e ids G = G e
  | [], F, h => by
    simp only [onEx] at h
    obtain ⟨h1, h2⟩ := cond_any h
    cases e <;> first | exact ⟨h2, fun γ G => rfl⟩ | cases h1
  | i :: ids, F, h => by
    simp only [onEx] at h
    cases he : e.isExit i with
    | true =>
      rw [he, cond_true] at h
      cases e with
      | exit j =>
        have : j = i := by simpa [Ex.isExit] using he
        subst this
        exact ⟨h, fun γ G => by simp only [onEx, he, cond_true]⟩
      | normal => cases he
      | ret => cases he
    | false =>
      rw [he, cond_false] at h
      obtain ⟨h1, h2⟩ := onEx_all (s := s) h
      exact ⟨h1, fun γ G => by simp only [onEx, he, cond_false]; exact h2 γ G⟩

theorem iter_use {F : CallFn → Vars → Option (Ex × Vars)} (hF : ∀ v q, F call v = some q → ∃ T, Meets call T ∧ ∀ call', Meets call' T → F call' v = some q) :
    ∀ (n : Nat) (v : Vars) (q : Ex × Vars), evN.iterN (F call) n v = some q → ∃ T, Meets call T ∧ ∀ call', Meets call' T → evN.iterN (F call') n v = some q
  | 0, v, q, h => by cases h
  | n + 1, v, q, h => by
    rw [evN.iterN, Option.bind_eq_some_iff] at h
    obtain ⟨⟨e, v1⟩, h1, h2⟩ := h
    obtain ⟨T, h3, h4⟩ := hF v _ h1
    cases e with
    | normal =>
      obtain ⟨U, h5, h6⟩ := iter_use hF n v1 q h2
      refine ⟨T ++ U, meets_app.2 ⟨h3, h5⟩, fun call' hm => ?_⟩
      rw [evN.iterN, h4 call' (meets_app.1 hm).1]
      exact h6 call' (meets_app.1 hm).2
    | exit i => exact ⟨T, h3, fun call' hm => by rw [evN.iterN, h4 call' hm]; exact h2⟩
    | ret => exact ⟨T, h3, fun call' hm => by rw [evN.iterN, h4 call' hm]; exact h2⟩

theorem evC_use : ∀ (c : Code) {b : Nat} {β : Type} {s : St} {K : Ex → St → Option β} {r : β}, evC C call iterL f c b β s K = some r →
    ∃ ex s' T, K ex s' = some r ∧ (∀ (γ : Type) (G : Ex → St → Option γ), evC C call iterL f c b γ s G = G ex s') ∧ Meets call T ∧
      ∀ call', Meets call' T → ∀ (γ : Type) (G : Ex → St → Option γ), evC C call' iterL f c b γ s G = G ex s' := by
  intro c
  induction c with
  | skip => intro b β s K r h; exact ⟨.normal, s, [], h, fun _ _ => rfl, meets_nil _, fun _ _ _ _ => rfl⟩
  | label l => intro b β s K r h; exact ⟨.normal, s, [], h, fun _ _ => rfl, meets_nil _, fun _ _ _ _ => rfl⟩
  | exit id => intro b β s K r h; exact ⟨.exit id, s, [], h, fun _ _ => rfl, meets_nil _, fun _ _ _ _ => rfl⟩
  | ret => intro b β s K r h; exact ⟨.ret, s, [], h, fun _ _ => rfl, meets_nil _, fun _ _ _ _ => rfl⟩
  | region id ops draw =>
    intro b β s K r h
    simp only [evC] at h
    obtain ⟨s', T, h1, h2, h3, h4⟩ := evReg_use h
    exact ⟨.normal, s', T, h1, fun γ G => h2 γ _, h3, fun call' hm γ G => h4 call' hm γ _⟩
  | seq x y ihx ihy =>
    intro b β s K r h
    simp only [evC] at h
    obtain ⟨ex, s1, T, h1, h2, h3, h4⟩ := ihx h
    cases ex with
    | normal =>
      obtain ⟨ex', s2, U, h5, h6, h7, h8⟩ := ihy h1
      refine ⟨ex', s2, T ++ U, h5, fun γ G => ?_, meets_app.2 ⟨h3, h7⟩, fun call' hm γ G => ?_⟩
      · simp only [evC]; rw [h2]; exact h6 γ G
      · simp only [evC]; rw [h4 call' (meets_app.1 hm).1]; exact h8 call' (meets_app.1 hm).2 γ G
    | exit i => exact ⟨.exit i, s1, T, h1, fun γ G => by simp only [evC]; rw [h2], h3, fun call' hm γ G => by simp only [evC]; rw [h4 call' hm]⟩
    | ret => exact ⟨.ret, s1, T, h1, fun γ G => by simp only [evC]; rw [h2], h3, fun call' hm γ G => by simp only [evC]; rw [h4 call' hm]⟩
  | cond c x y ihx ihy =>
    intro b β s K r h
    simp only [evC] at h
    split at h
    · rename_i t ht
      cases t with
      | true =>
        obtain ⟨ex, s1, T, h1, h2, h3, h4⟩ := ihx h
        exact ⟨ex, s1, T, h1, fun γ G => by simp only [evC, ht, cond_true]; exact h2 γ G, h3, fun call' hm γ G => by simp only [evC, ht, cond_true]; exact h4 call' hm γ G⟩
      | false =>
        obtain ⟨ex, s1, T, h1, h2, h3, h4⟩ := ihy h
        exact ⟨ex, s1, T, h1, fun γ G => by simp only [evC, ht, cond_false]; exact h2 γ G, h3, fun call' hm γ G => by simp only [evC, ht, cond_false]; exact h4 call' hm γ G⟩
    · cases h
  | block id x ih =>
    intro b β s K r h
    simp only [evC] at h
    obtain ⟨ex, s1, T, h1, h2, h3, h4⟩ := ih h
    cases ex with
    | normal => exact ⟨.normal, s1, T, h1, fun γ G => by simp only [evC]; rw [h2], h3, fun call' hm γ G => by simp only [evC]; rw [h4 call' hm]⟩
    | ret => exact ⟨.ret, s1, T, h1, fun γ G => by simp only [evC]; rw [h2], h3, fun call' hm γ G => by simp only [evC]; rw [h4 call' hm]⟩
    | exit j =>
      simp only at h1
      cases hj : (j == id) with
      | true =>
        rw [hj, cond_true] at h1
        exact ⟨.normal, s1, T, h1, fun γ G => by simp only [evC]; rw [h2]; simp only [hj, cond_true], h3, fun call' hm γ G => by simp only [evC]; rw [h4 call' hm]; simp only [hj, cond_true]⟩
      | false =>
        rw [hj, cond_false] at h1
        exact ⟨.exit j, s1, T, h1, fun γ G => by simp only [evC]; rw [h2]; simp only [hj, cond_false], h3, fun call' hm γ G => by simp only [evC]; rw [h4 call' hm]; simp only [hj, cond_false]⟩
  | loop x ih =>
    intro b β s K r h
    simp only [evC] at h
    obtain ⟨h1, h2⟩ := cond_any h
    obtain ⟨v, h3, h4⟩ := packV_all h2
    rw [Option.bind_eq_some_iff] at h4
    obtain ⟨⟨e, v'⟩, h5, h6⟩ := h4
    obtain ⟨s1, h7, h8⟩ := unpackV_all h6
    obtain ⟨h9, h10⟩ := onEx_all (s := s1) h8
    obtain ⟨n, hn⟩ := iterL_some _ _ _ h5
    obtain ⟨T, h11, h12⟩ := iter_use (call := call) (F := fun call v => unpackV C (C.loop f b) s v fun s => evC C call iterL f x b (Ex × Vars) s fun e s => packV (C.loop f b) s fun v => some (e, v)) (fun v q hq => by
      obtain ⟨s2, k1, k2⟩ := unpackV_all hq
      obtain ⟨e2, s3, T, k3, k4, k5, k6⟩ := ih k2
      refine ⟨T, k5, fun call' hm => ?_⟩
      rw [k1, k6 call' hm]
      exact k3) n v _ hn
    refine ⟨e, s1, T, h9, fun γ G => ?_, h11, fun call' hm γ G => ?_⟩
    · simp only [evC, h1, cond_true]
      rw [h3, h5, Option.bind_some, h7, h10]
    · simp only [evC, h1, cond_true]
      rw [h3, iterL_of (h12 call' hm), Option.bind_some, h7, h10]
  | _ => intro b β s K r h; simp only [evC, reduceCtorEq] at h

theorem evF_use {args : List AVal} {sg : Sig} {q : List Ent × Sig} (h : evF C call iterL f args sg = some q) : ∃ T, Meets call T ∧ ∀ call', Meets call' T → evF C call' iterL f args sg = some q := by
  unfold evF at h
  split at h
  · cases h
  · rename_i fn hfn
    split at h
    · cases h
    · rename_i body hbody
      obtain ⟨hh, h⟩ := cond_any h
      obtain ⟨ex, s', T, h1, _, h3, h4⟩ := evC_use body h
      refine ⟨T, h3, fun call' hm => ?_⟩
      unfold evF
      simp only [hfn, hbody, hh, cond_true]
      rw [h4 call' hm]
      exact h1

theorem callN_mono : ∀ (n : Nat) {f : FuncId} {args : List AVal} {sg : Sig} {q : List Ent × Sig}, callN C n f args sg = some q → callN C (n + 1) f args sg = some q
  | 0, f, args, sg, q, h => by cases h
  | n + 1, f, args, sg, q, h => by
    rw [callN] at h ⊢
    split at h
    · exact h
    · obtain ⟨T, h1, h2⟩ := evF_use h
      exact h2 _ fun t ht => callN_mono n (h1 t ht)

theorem callL_meets {T : List Fact} (h : Meets (callL C) T) : ∃ n, Meets (callN C n) T := by
  induction T with
  | nil => exact ⟨0, meets_nil _⟩
  | cons t T ih =>
    obtain ⟨n, hn⟩ := ih fun u hu => h u (by simp [hu])
    obtain ⟨m, hm⟩ := lim_some (h t (by simp))
    refine ⟨m + n, fun u hu => ?_⟩
    rcases List.mem_cons.1 hu with rfl | hu
    · exact mono_le (F := fun n => callN C n u.1 u.2.1 u.2.2.1) (fun n r h => callN_mono n h) hm n
    · have := mono_le (F := fun n => callN C n u.1 u.2.1 u.2.2.1) (fun n r h => callN_mono n h) (hn u hu) m
      rw [Nat.add_comm] at this
      exact this

/-- a call is what the body makes of it -/
theorem callL_of {args : List AVal} {sg : Sig} {q : List Ent × Sig} (hp : C.prim f = none) (h : evF C (callL C) iterL f args sg = some q) : callL C f args sg = some q := by
  obtain ⟨T, h1, h2⟩ := evF_use h
  obtain ⟨n, hn⟩ := callL_meets h1
  refine lim_of (n := n + 1) (fun n r h => callN_mono n h) ?_
  rw [callN, hp]
  exact h2 _ hn

theorem callL_prim {F : List AVal → Sig → Option (List Ent × Sig)} {args : List AVal} {sg : Sig} {q : List Ent × Sig} (hp : C.prim f = some F) (h : F args sg = some q) : callL C f args sg = some q := by
  refine lim_of (n := 1) (fun n r h => callN_mono n h) ?_
  rw [callN, hp]
  exact h

end
end Go.Aev

end
section
/- A table of what calls give. -/
namespace Go.Aev

/-- what the table says is what the calls give -/
def TblOk (C : Cfg) (tbl : CallFn) : Prop := ∀ f a s r, tbl f a s = some r → callL C f a s = some r

theorem tbl_body {C : Cfg} {tbl : CallFn} (h : TblOk C tbl) {f : FuncId} {args : List AVal} {sg : Sig} {q : List Ent × Sig} (hp : C.prim f = none) (he : evF C tbl iterL f args sg = some q) : callL C f args sg = some q := by
  obtain ⟨T, h1, h2⟩ := evF_use he
  exact callL_of hp (h2 _ fun t ht => h _ _ _ _ (h1 t ht))

theorem tbl_none (C : Cfg) : TblOk C fun _ _ _ => none := fun f a s r h => by cases h

/-- a table with one function more -/
def add (t : CallFn) (f : FuncId) (S : List AVal → Sig → Option (List Ent × Sig)) : CallFn := fun g a s => cond (g == f) (S a s) (t g a s)

theorem add_ok {C : Cfg} {t : CallFn} {f : FuncId} {S : List AVal → Sig → Option (List Ent × Sig)} (h : TblOk C t) (hp : C.prim f = none) (hS : ∀ a s r, S a s = some r → evF C t iterL f a s = some r) : TblOk C (add t f S) := by
  intro g a s r hr
  unfold add at hr
  cases hg : (g == f) with
  | true =>
    rw [hg, cond_true] at hr
    have : g = f := by simpa using hg
    subst this
    exact tbl_body h hp (hS a s r hr)
  | false =>
    rw [hg, cond_false] at hr
    exact h g a s r hr

theorem add_prim {C : Cfg} {t : CallFn} {f : FuncId} {S : List AVal → Sig → Option (List Ent × Sig)} (h : TblOk C t) (hp : C.prim f = some S) : TblOk C (add t f S) := by
  intro g a s r hr
  unfold add at hr
  cases hg : (g == f) with
  | true =>
    rw [hg, cond_true] at hr
    have : g = f := by simpa using hg
    subst this
    exact callL_prim hp hr
  | false =>
    rw [hg, cond_false] at hr
    exact h g a s r hr

end Go.Aev

end
section
/- Functions of the library whose contracts are known. -/
namespace Go.Aev
open Go.RowKit

theorem after_below {w w' : World} {M : Nat → Nat} {sm : List Nat} (h : Below w.heap.size w w') : After w w' M M sm sm :=
  ⟨h.os, h.tape, h.output, h.size, fun b hb _ => h.block b hb, fun _ _ => rfl, [], by simp, fun b hb => by cases hb⟩

/-- a plain value that a call gives, behind which memory is as it was, below its end -/
theorem callAt_one {C : Cfg} {f : FuncId} {F : List AVal → Sig → Option (List Ent × Sig)}
    (h0 : ∀ args sg rs sg', F args sg = some (rs, sg') → sg = []) (h : ∀ args sg rs sg', F args sg = some (rs, sg') → ∀ (w : World) (M : Nat → Nat) (vs : Array Value), args.length = vs.size → (∀ (i : Nat) x v, args[i]? = some x → vs[i]? = some v → RepB w M [] x v) → GlobOk C w M →
      sg' = [] ∧ ∃ d, rs = [(.dat d, .none)] ∧ Calls C.P f vs w fun e w' => ∃ v, e = .returned v ∧ Below w.heap.size w w' ∧ Rep w' M d v) : CallAt C f F := by
  intro args sg rs sg' hF w M sm vs hl hr hs hg
  have hsl : sg = [] := h0 args sg rs sg' hF
  subst hsl
  have hsm : sm = [] := List.eq_nil_of_length_eq_zero hs.1.symm
  subst hsm
  obtain ⟨rfl, d, rfl, hc⟩ := h args [] rs sg' hF w M vs hl hr hg
  refine hc.mono fun e w' ⟨v, he, hb, hd⟩ => ⟨v, M, [], he, after_below hb, sigOk_nil w' M, [v], rfl, rfl, fun i e u he hu => ?_, fun i j e e' t t' n n' he he' h h' => ?_⟩
  · cases i with
    | zero =>
      simp only [List.getElem?_cons_zero, Option.some.injEq] at he hu
      subst he hu
      exact ⟨.dat hd, trivial⟩
    | succ i => simp at he
  · cases i with
    | zero =>
      simp only [List.getElem?_cons_zero, Option.some.injEq] at he
      subst he
      cases h
    | succ i => simp at he

end Go.Aev

end
section
/- Loops, told by their bodies. -/
namespace Go.Aev

/-- the body of the loop that lies in the block b -/
def findLoop (b : Nat) : Nat → Code → Option Code
  | c, .loop x => cond (c == b) (some x) (findLoop b c x)
  | c, .seq x y => (findLoop b c x).or (findLoop b c y)
  | c, .cond _ x y => (findLoop b c x).or (findLoop b c y)
  | _, .block i x => findLoop b i x
  | c, .scope x => findLoop b c x
  | _, _ => none

def loopBody (P : Program) (f : FuncId) (b : Nat) : Code :=
  (((P.funcs[f]?).bind (·.body)).bind (findLoop b (b + 1))).getD .skip

/-- one round of a loop -/
noncomputable def roundOf (C : Cfg) (t : CallFn) (f : FuncId) (b : Nat) (s : St) : Vars → Option (Ex × Vars) :=
  fun v => unpackV C (C.loop f b) s v fun s => evC C t iterL f (loopBody C.P f b) b (Ex × Vars) s fun e s => packV (C.loop f b) s fun v => some (e, v)

end Go.Aev

end
section
/- What a row's condition reads, as the evaluator's data. -/
namespace Go.Aev

section
variable {H : Type} {enc : TypeId × Value → H} {P : Program} {w : World} {base : Nat} {spare : Nat → Bool} {held : Bool} {M : Nat → Nat}

/-- fields that lie side by side -/
def datFs (P : Program) (rec : TypeId → DataW H → Option (List Dat)) : List Field → Nat → List (DataW H) → Option (List Dat)
  | [], _, [] => some []
  | f :: fs, off, d :: ds => cond (f.offset == off) ((rec f.type d).bind fun a => cond (a.length == P.cellsOf f.type) ((datFs P rec fs (off + P.cellsOf f.type) ds).map fun r => a ++ r) none) none
  | _, _, _ => none

/-- the cells of a thing of a type -/
def datW (P : Program) : Nat → TypeId → DataW H → Option (List Dat)
  | 0, _, _ => none
  | n + 1, t, d =>
    match P.underlying t, d with
    | some .bool, .lit (.bool b) => some [.bool b]
    | some (.int k), .lit (.int k' x) => cond (k == k') (some [.int k x]) none
    | some .string, .lit (.string l) => some [.str ⟨l.toArray⟩]
    | some (.slice _), .nil => some [.sl []]
    | some (.struct fs), .agg ds => (datFs P (datW P n) fs.toList 0 ds).bind fun r => cond (r.length == P.cellsOf t) (some r) none
    | some (.array _ e), .agg ds => (ds.mapM (datW P n e)).bind fun r => cond ((r.all fun x => x.length == P.cellsOf e) && (P.cellsOf t == ds.length * P.cellsOf e)) (some r.flatten) none
    | _, _ => none

/-- cells that represent data -/
def RepL (w : World) (M : Nat → Nat) (ds : List Dat) (cs : List Value) : Prop := ds.length = cs.length ∧ ∀ (j : Nat) x v, ds[j]? = some x → cs[j]? = some v → Rep w M x v

theorem RepL.append {a b : List Dat} {c d : List Value} (h : RepL w M a c) (k : RepL w M b d) : RepL w M (a ++ b) (c ++ d) := by
  refine ⟨by simp [h.1, k.1], fun j x v hx hv => ?_⟩
  rw [List.getElem?_append] at hx hv
  rw [← h.1] at hv
  split at hx
  · rename_i hlt
    rw [if_pos hlt] at hv
    exact h.2 j x v hx hv
  · rename_i hlt
    rw [if_neg hlt] at hv
    exact k.2 _ x v hx hv

theorem repL_one {d : Dat} {v : Value} (h : Rep w M d v) : RepL w M [d] [v] := by
  refine ⟨rfl, fun j x u hx hu => ?_⟩
  cases j with
  | zero =>
    simp only [List.getElem?_cons_zero, Option.some.injEq] at hx hu
    subst hx hu
    exact h
  | succ j => simp at hx

theorem take_drop_split (l : List Value) (a b : Nat) : (l.drop a) = (l.drop a).take b ++ l.drop (a + b) := by
  rw [← List.drop_drop, List.take_append_drop]

theorem datFs_rep {rec : TypeId → DataW H → Option (List Dat)} {tr : TypeId → List Value → Option (DataW H × List MemPlace)} (hrec : ∀ t cs d p ds, tr t cs = some (d, p) → rec t d = some ds → RepL w M ds cs) (cs : List Value) :
    ∀ (fs : List Field) (off : Nat) (xs : List (DataW H × List MemPlace)) (ds : List Dat), fs.mapM (fun f => tr f.type ((cs.drop f.offset).take (P.cellsOf f.type))) = some xs → datFs P rec fs off (xs.map (·.1)) = some ds →
      ∃ n, RepL w M ds ((cs.drop off).take n) ∧ ds.length = n
  | [], off, xs, ds, h, hd => by
    cases h
    cases hd
    exact ⟨0, ⟨by simp, fun j x v hx _ => by simp at hx⟩, rfl⟩
  | f :: fs, off, xs, ds, h, hd => by
    simp only [List.mapM_cons, Option.bind_eq_bind, Option.bind_eq_some_iff, Option.pure_def, Option.some.injEq] at h
    obtain ⟨x, hx, ys, hys, rfl⟩ := h
    obtain ⟨d, p⟩ := x
    simp only [List.map_cons, datFs] at hd
    obtain ⟨h1, h2⟩ := cond_any hd
    have h1 : f.offset = off := by simpa using h1
    subst h1
    rw [Option.bind_eq_some_iff] at h2
    obtain ⟨a, ha, h3⟩ := h2
    obtain ⟨h4, h5⟩ := cond_any h3
    have h4 : a.length = P.cellsOf f.type := by simpa using h4
    rw [Option.map_eq_some_iff] at h5
    obtain ⟨r, hr, rfl⟩ := h5
    obtain ⟨n, k1, k2⟩ := datFs_rep hrec cs fs _ ys r hys hr
    have k0 := hrec _ _ d p a hx ha
    refine ⟨P.cellsOf f.type + n, ?_, by simp [h4, k2]⟩
    have e : (cs.drop f.offset).take (P.cellsOf f.type + n) = (cs.drop f.offset).take (P.cellsOf f.type) ++ (cs.drop (f.offset + P.cellsOf f.type)).take n := by
      rw [List.take_add, List.drop_drop]
    rw [e]
    exact k0.append k1

theorem datArr_rep {rec : DataW H → Option (List Dat)} {tr : List Value → Option (DataW H × List MemPlace)} {c : Nat} (hrec : ∀ cs d p ds, tr cs = some (d, p) → rec d = some ds → RepL w M ds cs) (cs : List Value) :
    ∀ (n k : Nat) (xs : List (DataW H × List MemPlace)) (r : List (List Dat)), (List.range' k n).mapM (fun i => tr ((cs.drop (i * c)).take c)) = some xs → (xs.map (·.1)).mapM rec = some r → (∀ x ∈ r, x.length = c) →
      RepL w M r.flatten ((cs.drop (k * c)).take (n * c)) ∧ r.flatten.length = n * c
  | 0, k, xs, r, h, hr, _ => by
    cases h
    cases hr
    exact ⟨⟨by simp, fun j x v hx _ => by simp at hx⟩, by simp⟩
  | n + 1, k, xs, r, h, hr, hl => by
    simp only [List.range'_succ, List.mapM_cons, Option.bind_eq_bind, Option.bind_eq_some_iff, Option.pure_def, Option.some.injEq] at h
    obtain ⟨x, hx, ys, hys, rfl⟩ := h
    obtain ⟨d, p⟩ := x
    simp only [List.map_cons, List.mapM_cons, Option.bind_eq_bind, Option.bind_eq_some_iff, Option.pure_def, Option.some.injEq] at hr
    obtain ⟨a, ha, r', hr', rfl⟩ := hr
    obtain ⟨k1, k2⟩ := datArr_rep hrec cs n (k + 1) ys r' hys hr' fun x hx => hl x (by simp [hx])
    have k0 := hrec _ d p a hx ha
    have hac : a.length = c := hl a (by simp)
    refine ⟨?_, by simp only [List.flatten_cons, List.length_append]; rw [k2, hac, Nat.succ_mul]; omega⟩
    have e : (cs.drop (k * c)).take ((n + 1) * c) = (cs.drop (k * c)).take c ++ (cs.drop ((k + 1) * c)).take (n * c) := by
      rw [show (n + 1) * c = c + n * c by rw [Nat.succ_mul]; omega, List.take_add, List.drop_drop, show k * c + c = (k + 1) * c by rw [Nat.succ_mul]]
    rw [e, List.flatten_cons]
    exact k0.append k1

theorem datW_rep : ∀ (n fuel : Nat) (t : TypeId) (cs : List Value) (d : DataW H) (p : List MemPlace) (ds : List Dat), DataW.trod enc P w base spare held fuel t cs = some (d, p) → datW P n t d = some ds → RepL w M ds cs
  | 0, _, _, _, _, _, _, _, hd => by cases hd
  | n + 1, 0, _, _, _, _, _, h, _ => by cases h
  | n + 1, fuel + 1, t, cs, d, p, ds, h, hd => by
    have ih := datW_rep n fuel
    unfold datW at hd
    split at hd
    · rename_i b ht
      obtain ⟨h1, h2⟩ : cs = [.bool b] ∧ True := by
        rw [DataW.trod.eq_def] at h
        simp only [ht] at h
        split at h <;> simp_all
      subst h1
      cases hd
      exact repL_one (.bool b)
    · rename_i k k' x ht
      obtain ⟨h3, h4⟩ := cond_any hd
      have h3 : k = k' := by simpa using h3
      subst h3
      cases h4
      obtain ⟨x', h5, h6, _⟩ := DataW.trod_int ht h
      subst h5
      cases h6
      exact repL_one (.int _ _)
    · rename_i l ht
      obtain ⟨x, h1, h2, _⟩ := DataW.trod_string ht h
      subst h1
      cases h2
      cases hd
      exact repL_one (.str _)
    · rename_i e ht
      have h1 : cs = [.slice none 0 0] := by
        rcases Go.Deep.open_slice ht h with ⟨h1, _⟩ | ⟨a, len, cap, m, n, D, Pl, _, _, _, _, _, h2, _⟩
        · exact h1
        · cases h2
      subst h1
      cases hd
      exact repL_one .nilS
    · rename_i fs ds' ht
      simp only [DataW.trod, ht] at h
      split at h
      · rename_i hl
        rw [Option.map_eq_some_iff] at h
        obtain ⟨xs, h1, h2⟩ := h
        cases h2
        rw [Option.bind_eq_some_iff] at hd
        obtain ⟨r, hr, h3⟩ := hd
        obtain ⟨h4, h5⟩ := cond_any h3
        cases h5
        have h4 : ds.length = P.cellsOf t := by simpa using h4
        obtain ⟨n', k1, k2⟩ := datFs_rep (tr := DataW.trod enc P w base spare held fuel) (fun t cs d p ds h hd => ih t cs d p ds h hd) cs _ _ xs ds h1 hr
        have hn : n' = cs.length := by omega
        rw [hn, List.drop_zero, List.take_length] at k1
        exact k1
      · cases h
    · rename_i m e ds' ht
      simp only [DataW.trod, ht] at h
      split at h
      · rename_i hl
        rw [Option.map_eq_some_iff] at h
        obtain ⟨xs, h1, h2⟩ := h
        cases h2
        rw [Option.bind_eq_some_iff] at hd
        obtain ⟨r, hr, h3⟩ := hd
        obtain ⟨h4, h5⟩ := cond_any h3
        cases h5
        simp only [Bool.and_eq_true, List.all_eq_true, beq_iff_eq] at h4
        rw [List.range_eq_range'] at h1
        obtain ⟨k1, k2⟩ := datArr_rep (c := P.cellsOf e) (tr := DataW.trod enc P w base spare held fuel e) (fun cs d p ds h hd => ih e cs d p ds h hd) cs m 0 xs r h1 hr h4.1
        have hxl : xs.length = m := by simpa using Go.Lib.mapM_length h1
        have h6 : m * P.cellsOf e = cs.length := by rw [hl, h4.2]; simp [hxl]
        rw [h6, Nat.zero_mul, List.drop_zero, List.take_length] at k1
        exact k1
      · cases h
    · cases hd

/-- the sizes of the blocks: whatever lies there lies below them -/
def sizes (w : World) (b : Nat) : Nat :=
  match w.heap[b]? with
  | some (.cells c _ _) => c.size
  | _ => 0

theorem below_sizes {a : Addr} {v : Value} (h : w.cell? a = some v) : a.off < sizes w a.block := by
  unfold World.cell? at h
  unfold sizes
  split at h
  · rename_i c t fr hb
    rw [hb]
    split at h
    · cases h
    · exact (Array.getElem?_eq_some_iff.1 h).1
  · cases h

/-- a table of the program's that holds what its text lays -/
theorem imm_of_var {name : String} {g : Nat} {t : TypeId} {fuel n : Nat} {cs : Array Value} {d : DataW H} {p : List MemPlace} {ds : List Dat} (hg : P.globalNamed name = some g) (hv : w.var? P name = some cs)
    (hd : DataW.trod enc P w base spare held fuel t cs.toList = some (d, p)) (hw : datW P n t d = some ds) : RepB w (sizes w) [] (.imm ds) (.pointer (some ⟨g, 0, none⟩)) := by
  obtain ⟨h1, h2⟩ := datW_rep (M := sizes w) n fuel t cs.toList d p ds hd hw
  have hc := fun i => World.var?_cell hg hv i
  have hlen : ds.length = cs.size := by simpa using h1
  refine .imm (fun i => cs.getD i undef) rfl (fun k hk => ?_) fun k x hx => ?_
  · have hlt : k < cs.size := by omega
    have e : (Addr.add ⟨g, 0, none⟩ k) = ⟨g, k, none⟩ := by rw [add_eq rfl]; simp
    have h3 : w.cell? (Addr.add ⟨g, 0, none⟩ k) = some (cs.getD k undef) := by
      rw [e, hc k, Array.getElem?_eq_getElem hlt]
      simp [Array.getD_eq_getD_getElem?, hlt]
    refine ⟨h3, ?_⟩
    have := below_sizes h3
    rw [add_off, add_block] at this
    exact this
  · have hlt : k < cs.size := by rw [← hlen]; exact (List.getElem?_eq_some_iff.1 hx).1
    refine h2 k x _ hx ?_
    simp [Array.getD_eq_getD_getElem?, hlt]

end
end Go.Aev

end
section
/- What a row says behind a call that turned nothing of what was there. -/
namespace Go.Aev
open Go.ChangeShapes Go.WideShapes Go.RowKit

theorem post_of_below {H : Type} {enc : TypeId × Value → H} {P : Program} {f : Func} {s : ChangeSpec} {apart fresh handsOn again : Bool} {W W' : World} {args : Array Value} {v : Value} {ds gs : List (DataW H)} {before pa pv : List MemPlace}
    (hW : DataW.Whole enc P f.params.toList s.vars apart W args.toList ds gs before) (hB : Below W.heap.size W W')
    (hres : ∀ (b : Nat) (sp : Nat → Bool) (hd : Bool), DataW.TrodAll enc P W' b sp hd f.resultTypes.toList (v.resultList f.resultTypes.size) (s.fn H (ds ++ gs)).results [])
    (hargs : ∀ sp : Nat → Bool, (∀ p ∈ before, sp p.block = true) → DataW.TrodAll enc P W' 0 sp true f.params.toList args.toList (s.fn H (ds ++ gs)).args pa)
    (hvars : ∀ sp : Nat → Bool, (∀ p ∈ before, sp p.block = true) → DataW.TrodVars enc P W' sp s.vars (s.fn H (ds ++ gs)).vars pv)
    (hps : before = pa ++ pv)
    (hok : ∀ (j : Nat) (t : TypeId) (r : Value), f.resultTypes[j]? = some t → (v.resultList f.resultTypes.size)[j]? = some r → Value.okWide P W' .any 0 t r) :
    s.post enc P f apart fresh handsOn again W args v W' := by
  have hold : ∀ p ∈ before, (fun b => decide (b < W.heap.size)) p.block = true := fun p hp => by simpa using hW.lt p hp
  have hlt := fun p hp => hW.lt p hp
  refine ⟨ds, gs, before, [], pa, pv, hW, hres _ _ _, hargs _ hold, hvars _ hold, World.keptBut_mono (fun p hp => ⟨hp, ?_⟩) (hB.frame (· ∈ before)), fun _ => ?_⟩
  · rw [hps, List.mem_append] at hp
    exact Or.inr hp
  · obtain ⟨_, _, _, _, _, hz, hn⟩ := hW
    refine ⟨hok, _, _, ([] ++ pa) ++ pv, ⟨[] ++ pa, pv, trodAll_append (hargs _ (fun _ _ => rfl)) (hres _ _ _), hvars _ (fun _ _ => rfl), rfl, ?_, ?_⟩, ?_⟩
    · intro b off hp
      have hp' : MemPlace.cell b off ∈ before := by rw [hps]; simpa using hp
      have hb := hlt _ hp'
      have e : W'.frozen? ⟨b, off, none⟩ = W.frozen? ⟨b, off, none⟩ := by
        unfold World.frozen?
        rw [show W'.heap[b]? = W.heap[b]? from hB.block b hb]
      rw [e]
      exact hz b off hp'
    · intro ha
      have := hn ha
      rw [hps] at this
      simpa using this
    · intro p hp _
      rw [hps]
      simpa using hp

theorem below_after {W W' : World} {M M' : Nat → Nat} {sm' : List Nat} (h : After W W' M M' [] sm') : Below W.heap.size W W' := ⟨h.os, h.tape, h.output, h.size, fun k hk => h.block k hk (by simp)⟩

/-- a call that answers one bool -/
theorem calls_bool {C : Cfg} (hC : CfgOk C) (hp : ∀ f F, C.prim f = some F → CallAt C f F) {f : FuncId} {args : List AVal} {b : Bool} (h : callL C f args [] = some ([(.dat (.bool b), .none)], [])) {W : World} {vs : Array Value} (hl : args.length = vs.size)
    (hr : ∀ (i : Nat) x v, args[i]? = some x → vs[i]? = some v → RepB W (sizes W) [] x v) (hg : GlobOk C W (sizes W)) : Calls C.P f vs W fun e W' => e = .returned (.bool b) ∧ Below W.heap.size W W' := by
  refine (callL_ok hC hp f args [] _ [] h W (sizes W) [] vs hl hr (sigOk_nil _ _) hg).mono fun e W' ⟨v, M', sm', he, hA, _, us, hv, hlen, hrr, _⟩ => ?_
  match us, hlen, hv, hrr with
  | [u], _, hv, hrr =>
    have := (hrr 0 _ u rfl rfl).1
    cases this with
    | dat hd =>
      cases hd
      exact ⟨by rw [he, show v = _ from hv], below_after hA⟩

end Go.Aev

end

/- An error's number and the kinds as the evaluator sees them; the set-up in which the places of columns are gathered. -/
import Derived.Test.YtppilomaljgkoaaGreatDoorKP
import Derived.Test.YtppilomaljgkoaaGreatDoorKB
set_option linter.unusedVariables false
set_option linter.unusedSimpArgs false
namespace Go.Proofs.YtppilomaljgkoaaGreatDoor
open Go Go.Aev Go.RowKit Go.Sort
def numberRes : Dat → Option Int
  | .nilI => some 0
  | .ifp t [.int .i64 n] => cond (t == 79) (some n) none
  | _ => none
theorem numberRes_some {e : Dat} {n : Int} (h : numberRes e = some n) : (e = .nilI ∧ n = 0) ∨ e = .ifp 79 [.int .i64 n] := by
  unfold numberRes at h
  split at h
  next => cases h; exact .inl ⟨rfl, rfl⟩
  next t m =>
    cases ht : (t == 79) with
    | false => rw [ht] at h; cases h
    | true =>
      rw [ht] at h
      cases h
      have ht : t = 79 := by simpa using ht
      subst ht
      exact .inr rfl
  next => cases h
def Sp.types_number (e : Dat) (γ : Type) (K : Int → Option γ) : Option γ := (numberRes e).bind K
def numberF : List AVal → Sig → Option (List Ent × Sig) := fun a sg => match a, sg with
  | [.dat e], [] => (numberRes e).map fun n => ([(.dat (.int .i64 n), .none)], [])
  | _, _ => none
theorem numberP (p : Par) {C : Cfg} (hP : C.P = Tryz.prog) (hd : C.dr = false) (hgl : ∀ w M, GlobOk C w M → GlobOk (cfgZ p) w M) : CallAt C 36 numberF := by
  refine callAt_one hd (fun args sg rs sg' h => ?_) fun args sg rs sg' h w M vs hl hr hg => ?_
  · unfold numberF at h
    split at h
    · rfl
    · cases h
  · unfold numberF at h
    split at h
    · rename_i e
      rw [Option.map_eq_some_iff] at h
      obtain ⟨n, hn, h⟩ := h
      cases h
      refine ⟨rfl, _, rfl, ?_⟩
      obtain ⟨l⟩ := vs
      match l, hl with
      | [v0], _ =>
        have h0 := hr 0 _ v0 rfl rfl
        have hty := type_cell p (hgl _ _ hg)
        have hd0 : Rep w M e v0 := by cases h0 with | dat h => exact h
        rw [hP]
        rcases numberRes_some hn with ⟨rfl, rfl⟩ | rfl
        · cases hd0
          refine (number_nil w).mono fun e w' hq => ?_
          obtain ⟨he, rfl⟩ := hq
          exact ⟨_, he, ⟨rfl, rfl, rfl, by show w.heap.size ≤ (w.heap.push _).size; simp, fun b hb => Go.Aev.heap_alloc_old w _ b hb⟩, .int _ _⟩
        · obtain ⟨ad, ws, rfl, hs, hcell, hrep⟩ : ∃ (ad : Addr) (ws : Nat → Value), v0 = .iface 79 (.pointer (some ad)) ∧ ad.spot = none ∧ (∀ k, k < 1 → w.cell? (ad.add k) = some (ws k) ∧ ad.off + k < M ad.block) ∧ ∀ (k : Nat) d, ([.int .i64 n] : List Dat)[k]? = some d → Rep w M d (ws k) := by
            cases hd0 with
            | ifp ws hs hcell hrep => exact ⟨_, ws, rfl, hs, hcell, hrep⟩
          · have hc := (hcell 0 (by omega)).1
            have hr0 := hrep 0 _ rfl
            rw [show ad.add 0 = ad from by rw [add_eq hs]; cases ad; simp at hs; subst hs; rfl] at hc
            generalize ws 0 = u at hc hr0
            cases hr0
            refine (number_hit _ ad w hs hty hc).mono fun e w' hq => ?_
            obtain ⟨he, rfl⟩ := hq
            refine ⟨_, he, ⟨rfl, rfl, rfl, ?_, fun b hb => ?_⟩, .int _ _⟩
            · simp; omega
            · rw [Go.Aev.heap_alloc_old _ _ b (by simp; omega), Go.Aev.heap_alloc_old _ _ b (by simp; omega), Go.Aev.heap_alloc_old _ _ b (by simp; omega), Go.Aev.heap_alloc_old _ _ b (by simp; omega), Go.Aev.heap_alloc_old _ _ b hb]
    · cases h
noncomputable def primY (p : Par) (f : FuncId) : Option (List AVal → Sig → Option (List Ent × Sig)) :=
  cond (f == 112) (some splitA) <| cond (f == 51) (some (kindsF p)) none
noncomputable def cfgY (p : Par) : Cfg :=
  { P := Tryz.prog, glob := globT p.m, low := lowT p, esc := escT, loop := loopT, join := fun _ _ => false, ownRes := ownResT, imm := fun t => t == 81, prim := primY p }
theorem cfgY_ok (p : Par) : CfgOk (cfgY p) := ⟨names_ok, by kernel_rfl, fun f z h => (by cases h), fun g z h n w hn => (by cases h)⟩
theorem globY (p : Par) : ∀ w M, GlobOk (cfgY p) w M → GlobOk (cfgZ p) w M := fun w M h => ⟨h.glob, h.low⟩
theorem splitP {p : Par} {C : Cfg} (hP : C.P = Tryz.prog) (hd : C.dr = false) (hgl : ∀ w M, GlobOk C w M → GlobOk (cfgZ p) w M) : CallAt C 112 splitA := by
  refine splitA_ok (T := 9) hd fun s sep w M hg h1 h2 => ?_
  rw [hP]
  exact Tryz.strings_Split s sep p.m w h1 (max_cell p (hgl _ _ hg)) h2
theorem prim_step {C : Cfg} {f k : FuncId} {F G : List AVal → Sig → Option (List Ent × Sig)} {R : Option (List AVal → Sig → Option (List Ent × Sig))} (hG : CallAt C k G) (hR : R = some F → CallAt C f F) (h : cond (f == k) (some G) R = some F) : CallAt C f F := by
  cases hf : (f == k) with
  | true =>
    rw [hf] at h
    cases h
    have : f = k := by simpa using hf
    rw [this]; exact hG
  | false => rw [hf] at h; exact hR h
theorem primY_ok (p : Par) : ∀ f F, (cfgY p).prim f = some F → CallAt (cfgY p) f F := by
  intro f F h
  have h : primY p f = some F := h
  unfold primY at h
  exact prim_step (splitP rfl rfl (globY p)) (prim_step (kindsP p rfl rfl (globY p)) (fun h => by cases h)) h
abbrev Ty_expr_kinds : Type 1 := Int → Int → Int → Int → ByteArray → ByteArray → ByteArray → List (List Dat) → Int → (γ : Type) → (List (List Dat) → Option γ) → Option γ
def P_expr_kinds (X : Ty_expr_kinds) (F : Ent3) : Ent3 := fun a s γ K => match a, s with
  | [AVal.agg [(Dat.int IntKind.i64 k, Own.none), (Dat.int IntKind.i64 n, Own.none), (Dat.int IntKind.i64 vk, Own.none), (Dat.int IntKind.i64 vn, Own.none), (Dat.str vs, Own.none), (Dat.str tab, Own.none), (Dat.str col, Own.none), (Dat.sl l, Own.none)], AVal.dat (Dat.int IntKind.i64 kv)], [] => X k n vk vn vs tab col l kv γ fun r => K ([(AVal.dat (Dat.sl r), Own.none)], [])
  | a, s => F a s γ K
theorem kinds_ent (p : Par) {C : Cfg} (hp : C.prim 51 = some (kindsF p)) {F : Ent3} (hF : EntOk C 51 F) : EntOk C 51 (P_expr_kinds Sp.expr_kinds F) := by
  intro a s γ K q h
  unfold P_expr_kinds at h
  split at h
  · rename_i k n vk vn vs tab col l kv
    unfold Sp.expr_kinds at h
    obtain ⟨z, hz, h⟩ := check_of p h
    rw [Option.bind_eq_some_iff] at h
    obtain ⟨r, hr, h⟩ := h
    refine ⟨([(.dat (.sl r), .none)], []), callL_prim (F := kindsF p) hp ?_, h⟩
    unfold kindsF
    simp only [hz, Option.bind_some, hr, Option.map_some]
  · exact hF _ _ _ _ _ h
abbrev Ty_types_number : Type 1 := Dat → (γ : Type) → (Int → Option γ) → Option γ
def P_types_number (X : Ty_types_number) (F : Ent3) : Ent3 := fun a s γ K => match a, s with
  | [AVal.dat e], [] => X e γ fun r => K ([(AVal.dat (Dat.int IntKind.i64 r), Own.none)], [])
  | a, s => F a s γ K
theorem number_ent {C : Cfg} (hp : C.prim 36 = some numberF) {F : Ent3} (hF : EntOk C 36 F) : EntOk C 36 (P_types_number Sp.types_number F) := by
  intro a s γ K q h
  unfold P_types_number at h
  split at h
  · rename_i e
    unfold Sp.types_number at h
    rw [Option.bind_eq_some_iff] at h
    obtain ⟨r, hr, h⟩ := h
    refine ⟨([(.dat (.int .i64 r), .none)], []), callL_prim (F := numberF) hp ?_, h⟩
    unfold numberF
    simp only [hr, Option.map_some]
  · exact hF _ _ _ _ _ h
end Go.Proofs.YtppilomaljgkoaaGreatDoor

/- How the evaluator is set for the whole program. -/
import Derived.Test.YtimdilbcijgadaaGreatDoorKI
set_option linter.unusedVariables false
set_option linter.unusedSimpArgs false
namespace Go.Proofs.YtimdilbcijgadaaGreatDoor
open Go Go.Aev Go.RowKit

def sortF : List AVal → Sig → Option (List Ent × Sig) := primS sortS
def primT (f : FuncId) : Option (List AVal → Sig → Option (List Ent × Sig)) :=
  cond (f == 104) (some splitA) <| cond (f == 49) (some joinA) <| cond (f == 82) (some (primS sortS)) <| cond (f == 41) (some (unlikeF 42 colNames)) <| cond (f == 34) (some (unlikeF 35 tabNames)) <| cond (f == 18) (some colsF) <| cond (f == 85) (some addF) none
def primK : FuncId → Option Ent3
  | 82 => some sortS
  | _ => none
noncomputable def cfg (p : Par) : Cfg :=
  { P := Tryz.prog, glob := globT p.m, esc := escT, loop := loopT, join := fun _ _ => false, ownRes := ownResT, ownArg := ownArgT, prim := primT }
theorem cfg_ok (p : Par) : CfgOk (cfg p) := by
  refine ⟨names_ok, by kernel_rfl, fun f z h => ?_, fun g z h => (by cases h)⟩
  have h : ownArgT f = some z := h
  unfold ownArgT at h
  split at h
  · cases h; exact ⟨rfl, rfl⟩
  · cases h
theorem max_cell (p : Par) {w : World} {M : Nat → Nat} (hg : GlobOk (cfg p) w M) : w.cell? ⟨0, 0, none⟩ = some (.int .i64 p.m) := by
  have := hg.glob 0 [.int .i64 p.m] rfl
  cases this with
  | imm ws hs hc hv =>
    have h3 := hc 0 (by simp)
    have h4 := hv 0 _ rfl
    generalize ws 0 = u at h3 h4
    cases h4
    have h5 := h3.1
    rw [show (Addr.add ⟨0, 0, none⟩ 0) = ⟨0, 0, none⟩ from rfl] at h5
    exact h5
theorem splitP (p : Par) : CallAt (cfg p) 104 splitA := splitA_ok (T := 9) rfl fun s sep w _ hg h1 h2 => Tryz.strings_Split s sep p.m w h1 (max_cell p hg) h2
theorem joinP (p : Par) : CallAt (cfg p) 49 joinA := joinA_ok rfl (fun a c sep w => Tryz.strings_Join_none a c sep w) fun bk o c xs sep w h1 h2 h3 h4 h5 => Tryz.strings_Join bk o c xs sep w h1 h2 h3 h4 h5

theorem prim_step {C : Cfg} {f k : FuncId} {F G : List AVal → Sig → Option (List Ent × Sig)} {R : Option (List AVal → Sig → Option (List Ent × Sig))} (hG : CallAt C k G) (hR : R = some F → CallAt C f F) (h : cond (f == k) (some G) R = some F) : CallAt C f F := by
  cases hf : (f == k) with
  | true =>
    rw [hf] at h
    cases h
    have : f = k := by simpa using hf
    rw [this]; exact hG
  | false => rw [hf] at h; exact hR h
theorem prim_ok (p : Par) : ∀ f F, (cfg p).prim f = some F → CallAt (cfg p) f F := by
  intro f F h
  have h : primT f = some F := h
  unfold primT at h
  exact prim_step (splitP p) (prim_step (joinP p) (prim_step (sortP p rfl rfl) (prim_step (unlikeC_P rfl rfl) (prim_step (unlikeT_P rfl rfl) (prim_step (columnsP rfl rfl) (prim_step (addP p rfl rfl) (fun h => by cases h))))))) h

theorem E_strings_Split (p : Par) {F : Ent3} (hF : EntOk (cfg p) 104 F) : EntOk (cfg p) 104 (P_strings_Split Sp.strings_Split F) := Go.Aev.E_strings_Split rfl hF
theorem E_strings_Join (p : Par) {F : Ent3} (hF : EntOk (cfg p) 49 F) : EntOk (cfg p) 49 (P_strings_Join Sp.strings_Join F) := Go.Aev.E_strings_Join rfl hF

abbrev Ty_catalog_unlike_api_Column : Type 1 := List (List Dat) → (γ : Type) → (Bool → Option γ) → Option γ
def P_catalog_unlike_api_Column (X : Ty_catalog_unlike_api_Column) (F : Ent3) : Ent3 := fun a s γ K => match a, s with
  | [AVal.dat (Dat.sl v_l), AVal.clo (Fn.func 42) [] []], [] => X v_l γ (fun r0 => K ([(AVal.dat (Dat.bool r0), Own.none)], []))
  | a, s => F a s γ K
def Sp.catalog_unlike_api_Column : Ty_catalog_unlike_api_Column := fun l γ K => ((colNames l).bind unlikeRes).bind K
theorem E_catalog_unlike_api_Column (p : Par) {F : Ent3} (hF : EntOk (cfg p) 41 F) : EntOk (cfg p) 41 (P_catalog_unlike_api_Column Sp.catalog_unlike_api_Column F) := by
  intro a s γ K q h
  unfold P_catalog_unlike_api_Column at h
  split at h
  · unfold Sp.catalog_unlike_api_Column at h
    rw [Option.bind_eq_some_iff] at h
    obtain ⟨r, hr, h⟩ := h
    refine ⟨([(.dat (.bool r), .none)], []), callL_prim (F := unlikeF 42 colNames) rfl ?_, h⟩
    unfold unlikeF
    simp only [hr, Option.map_some, beq_self_eq_true, cond_true]
  · exact hF _ _ _ _ _ h
abbrev Ty_catalog_unlike_api_Table : Type 1 := List (List Dat) → (γ : Type) → (Bool → Option γ) → Option γ
def P_catalog_unlike_api_Table (X : Ty_catalog_unlike_api_Table) (F : Ent3) : Ent3 := fun a s γ K => match a, s with
  | [AVal.dat (Dat.sl v_l), AVal.clo (Fn.func 35) [] []], [] => X v_l γ (fun r0 => K ([(AVal.dat (Dat.bool r0), Own.none)], []))
  | a, s => F a s γ K
def Sp.catalog_unlike_api_Table : Ty_catalog_unlike_api_Table := fun l γ K => ((tabNames l).bind unlikeRes).bind K
theorem E_catalog_unlike_api_Table (p : Par) {F : Ent3} (hF : EntOk (cfg p) 34 F) : EntOk (cfg p) 34 (P_catalog_unlike_api_Table Sp.catalog_unlike_api_Table F) := by
  intro a s γ K q h
  unfold P_catalog_unlike_api_Table at h
  split at h
  · unfold Sp.catalog_unlike_api_Table at h
    rw [Option.bind_eq_some_iff] at h
    obtain ⟨r, hr, h⟩ := h
    refine ⟨([(.dat (.bool r), .none)], []), callL_prim (F := unlikeF 35 tabNames) rfl ?_, h⟩
    unfold unlikeF
    simp only [hr, Option.map_some, beq_self_eq_true, cond_true]
  · exact hF _ _ _ _ _ h
abbrev Ty_catalog_Columns : Type 1 := ByteArray → List (List Dat) → List (List Dat) → ByteArray → (γ : Type) → (List (List Dat) → Option γ) → Option γ
def P_catalog_Columns (X : Ty_catalog_Columns) (F : Ent3) : Ent3 := fun a s γ K => match a, s with
  | [AVal.agg [(Dat.str v_t0, Own.none), (Dat.sl v_t1, Own.none), (Dat.sl v_t2, Own.none)], AVal.dat (Dat.str v_as)], [] => X v_t0 v_t1 v_t2 v_as γ (fun r0 => K ([(AVal.dat (Dat.sl r0), Own.none)], []))
  | a, s => F a s γ K
def Sp.catalog_Columns : Ty_catalog_Columns := fun n cols rows s γ K => cond (sized cols 3 && decide (cols.length ≤ 1000000)) (K (cols.map (setTab s))) none
theorem E_catalog_Columns (p : Par) {F : Ent3} (hF : EntOk (cfg p) 18 F) : EntOk (cfg p) 18 (P_catalog_Columns Sp.catalog_Columns F) := by
  intro a s γ K q h
  unfold P_catalog_Columns at h
  split at h
  · rename_i t0 t1 t2 s0
    unfold Sp.catalog_Columns at h
    obtain ⟨h1, h2⟩ := cond_any h
    refine ⟨([(.dat (.sl (t1.map (setTab s0))), .none)], []), callL_prim (F := colsF) rfl ?_, h2⟩
    unfold colsF
    simp only [h1, cond_true]
  · exact hF _ _ _ _ _ h
abbrev Ty_page_Add : Type 1 := List (List Dat) → List (List Dat) → (γ : Type) → (List (List Dat) → Int → Option γ) → Option γ
def P_page_Add (X : Ty_page_Add) (F : Ent3) : Ent3 := fun a s γ K => match a, s with
  | [AVal.dat (Dat.sl v_p), AVal.dat (Dat.sl v_r)], [] => X v_p v_r γ (fun r0 r1 => K ([(AVal.dat (Dat.sl r0), Own.none), (AVal.dat (Dat.int IntKind.i64 r1), Own.none)], []))
  | a, s => F a s γ K
def Sp.page_Add : Ty_page_Add := fun p r γ K => (addRes p r).bind fun q => K q.1 q.2
theorem E_page_Add (p : Par) {F : Ent3} (hF : EntOk (cfg p) 85 F) : EntOk (cfg p) 85 (P_page_Add Sp.page_Add F) := by
  intro a s γ K q h
  unfold P_page_Add at h
  split at h
  · unfold Sp.page_Add at h
    rw [Option.bind_eq_some_iff] at h
    obtain ⟨r, hr, h⟩ := h
    refine ⟨([(.dat (.sl r.1), .none), (.dat (.int .i64 r.2), .none)], []), callL_prim (F := addF) rfl ?_, h⟩
    unfold addF
    simp only [hr, Option.map_some]
  · exact hF _ _ _ _ _ h
end Go.Proofs.YtimdilbcijgadaaGreatDoor

/- What the functions of this program compute, printed by a program. -/
import Derived.Test.YtimdilbcijgadaaGreatDoorK3
import Derived.KernelRfl
set_option linter.unusedVariables false
namespace Go.Proofs.YtimdilbcijgadaaGreatDoor
open Go Go.Aev Go.RowKit
open Go.Aev.AVal (dat agg)
open Go.Aev.Dat (int str sl)
open Go.IntKind (i64)
noncomputable section
abbrev Ty_slices_EqualFunc_api_Table_api_Table_api_Table_api_Table_L0 : Type 1 := List (List Dat) → List (List Dat) → Int → Bool → Int → (γ : Type) → (Ex → Bool → Int → Option γ) → Option γ
def P_slices_EqualFunc_api_Table_api_Table_api_Table_api_Table_L0 (X : Ty_slices_EqualFunc_api_Table_api_Table_api_Table_api_Table_L0) (F : Loop3) : Loop3 := fun a s γ K => match a, s with
  | [dat (sl v_s2), AVal.clo (Fn.func 54) [] [], dat (sl v_), dat (int i64 v__1)], ([dat (Dat.bool v__2), dat (int i64 v__3)], []) => X v_s2 v_ v__1 v__2 v__3 γ (fun e x0 x1 => K (e, ([dat (Dat.bool x0), dat (int i64 x1)], [])))
  | a, s => F a s γ K
def T_slices_EqualFunc_api_Table_api_Table_api_Table_api_Table_L0 (x_catalog_same : Ty_catalog_same) : CallK := (addK noneK 54 (P_catalog_same x_catalog_same none3))
def L_slices_EqualFunc_api_Table_api_Table_api_Table_api_Table_L0 (x_catalog_same : Ty_catalog_same) : LoopK := noneL
def Sp.B_slices_EqualFunc_api_Table_api_Table_api_Table_api_Table_L0 (x_slices_EqualFunc_api_Table_api_Table_api_Table_api_Table_L0 : Ty_slices_EqualFunc_api_Table_api_Table_api_Table_api_Table_L0) (x_catalog_same : Ty_catalog_same) (v_s2 v_ : List (List Dat)) (v__1 : Int) (v__2 : Bool) (v__3 : Int) (γ : Type) (K : Ex → Bool → Int → Option γ) : Option γ := bif decide (v__3 < v__1) then elemAt v_ v__3 fun z7 => bif List.length z7 == 3 then cellAt z7 0 fun z8 => asStr z8 fun z9 => cellAt z7 1 fun z10 => asSl z10 fun z11 => cellAt z7 2 fun z12 => asSl z12 fun z13 => elemAt v_s2 v__3 fun z14 => bif List.length z14 == 3 then cellAt z14 0 fun z15 => asStr z15 fun z16 => cellAt z14 1 fun z17 => asSl z17 fun z18 => cellAt z14 2 fun z19 => asSl z19 fun z20 => x_catalog_same z9 z11 z13 z16 z18 z20 γ fun z21 => bif !z21 then K Ex.ret false v__3 else x_slices_EqualFunc_api_Table_api_Table_api_Table_api_Table_L0 v_s2 v_ v__1 v__2 (IntKind.wrap i64 (v__3 + 1)) γ K else none else none else K (Ex.exit 0) v__2 v__3
theorem e_slices_EqualFunc_api_Table_api_Table_api_Table_api_Table_L0 (p : Par) (x_slices_EqualFunc_api_Table_api_Table_api_Table_api_Table_L0 : Ty_slices_EqualFunc_api_Table_api_Table_api_Table_api_Table_L0) (x_catalog_same v_s2 v_ v__1 v__2 v__3) (γ : Type) (K : Ex × Vars → Option γ) : roundK (cfg p) (T_slices_EqualFunc_api_Table_api_Table_api_Table_api_Table_L0 x_catalog_same) (L_slices_EqualFunc_api_Table_api_Table_api_Table_api_Table_L0 x_catalog_same) 53 0 [dat (sl v_s2), AVal.clo (Fn.func 54) [] [], dat (sl v_), dat (int i64 v__1)] ([dat (Dat.bool v__2), dat (int i64 v__3)], []) γ (contL (fun v => P_slices_EqualFunc_api_Table_api_Table_api_Table_api_Table_L0 x_slices_EqualFunc_api_Table_api_Table_api_Table_api_Table_L0 noneL3 [dat (sl v_s2), AVal.clo (Fn.func 54) [] [], dat (sl v_), dat (int i64 v__1)] v γ K) K) = Sp.B_slices_EqualFunc_api_Table_api_Table_api_Table_api_Table_L0 x_slices_EqualFunc_api_Table_api_Table_api_Table_api_Table_L0 x_catalog_same v_s2 v_ v__1 v__2 v__3 γ (fun e x0 x1 => K (e, ([dat (Dat.bool x0), dat (int i64 x1)], []))) := by kernel_rfl
def Sp.slices_EqualFunc_api_Table_api_Table_api_Table_api_Table_L0 : Nat → Ty_slices_EqualFunc_api_Table_api_Table_api_Table_api_Table_L0
  | 0 => fun _ _ _ _ _ _ _ => none
  | n + 1 => Sp.B_slices_EqualFunc_api_Table_api_Table_api_Table_api_Table_L0 (Sp.slices_EqualFunc_api_Table_api_Table_api_Table_api_Table_L0 n) Sp.catalog_same
theorem E0_slices_EqualFunc_api_Table_api_Table_api_Table_api_Table_L0 (p : Par)   : ∀ n, EntOkL (cfg p) 53 0 (P_slices_EqualFunc_api_Table_api_Table_api_Table_api_Table_L0 (Sp.slices_EqualFunc_api_Table_api_Table_api_Table_api_Table_L0 n) noneL3) := entL_rounds (tab_call (tab_nil _) (E_catalog_same p (ent_none _ _))) (by kernel_rfl) (fun c v γ K => by unfold P_slices_EqualFunc_api_Table_api_Table_api_Table_api_Table_L0; split <;> rfl) fun n c v γ K q h => by
  unfold P_slices_EqualFunc_api_Table_api_Table_api_Table_api_Table_L0 at h
  split at h
  · exact (e_slices_EqualFunc_api_Table_api_Table_api_Table_api_Table_L0 p _ _ _ _ _ _ _ _ _).trans h
  · cases h
theorem E_slices_EqualFunc_api_Table_api_Table_api_Table_api_Table_L0 (p : Par)   (n : Nat) {F : Loop3} (hF : EntOkL (cfg p) 53 0 F) : EntOkL (cfg p) 53 0 (P_slices_EqualFunc_api_Table_api_Table_api_Table_api_Table_L0 (Sp.slices_EqualFunc_api_Table_api_Table_api_Table_api_Table_L0 n) F) := by
  intro c v γ K q h
  unfold P_slices_EqualFunc_api_Table_api_Table_api_Table_api_Table_L0 at h
  split at h
  · exact E0_slices_EqualFunc_api_Table_api_Table_api_Table_api_Table_L0 p n _ _ _ _ _ h
  · exact hF _ _ _ _ _ h
abbrev Ty_slices_EqualFunc_api_Table_api_Table_api_Table_api_Table : Type 1 := List (List Dat) → List (List Dat) → (γ : Type) → (Bool → Option γ) → Option γ
def P_slices_EqualFunc_api_Table_api_Table_api_Table_api_Table (X : Ty_slices_EqualFunc_api_Table_api_Table_api_Table_api_Table) (F : Ent3) : Ent3 := fun a s γ K => match a, s with
  | [dat (sl v_s1), dat (sl v_s2), AVal.clo (Fn.func 54) [] []], [] => X v_s1 v_s2 γ (fun r0 => K ([(dat (Dat.bool r0), Own.none)], []))
  | a, s => F a s γ K
def T_slices_EqualFunc_api_Table_api_Table_api_Table_api_Table (x_slices_EqualFunc_api_Table_api_Table_api_Table_api_Table_L0 : Ty_slices_EqualFunc_api_Table_api_Table_api_Table_api_Table_L0) : CallK := noneK
def L_slices_EqualFunc_api_Table_api_Table_api_Table_api_Table (x_slices_EqualFunc_api_Table_api_Table_api_Table_api_Table_L0 : Ty_slices_EqualFunc_api_Table_api_Table_api_Table_api_Table_L0) : LoopK := (addL noneL 53 0 (P_slices_EqualFunc_api_Table_api_Table_api_Table_api_Table_L0 x_slices_EqualFunc_api_Table_api_Table_api_Table_api_Table_L0 noneL3))
def Sp.B_slices_EqualFunc_api_Table_api_Table_api_Table_api_Table (x_slices_EqualFunc_api_Table_api_Table_api_Table_api_Table_L0 : Ty_slices_EqualFunc_api_Table_api_Table_api_Table_api_Table_L0) (v_s1 v_s2 : List (List Dat)) (γ : Type) (K : Bool → Option γ) : Option γ := bif !decide (Int.ofNat (List.length v_s1) = Int.ofNat (List.length v_s2)) then K false else x_slices_EqualFunc_api_Table_api_Table_api_Table_api_Table_L0 v_s2 v_s1 (Int.ofNat (List.length v_s1)) false 0 γ fun z4 z5 z6 => bif Ex.isExit z4 0 then K true else bif Ex.isRet z4 then K z5 else none
theorem e_slices_EqualFunc_api_Table_api_Table_api_Table_api_Table (p : Par) (x_slices_EqualFunc_api_Table_api_Table_api_Table_api_Table_L0 v_s1 v_s2) (γ : Type) (K : List Ent × Sig → Option γ) : evFK (cfg p) (T_slices_EqualFunc_api_Table_api_Table_api_Table_api_Table x_slices_EqualFunc_api_Table_api_Table_api_Table_api_Table_L0) (L_slices_EqualFunc_api_Table_api_Table_api_Table_api_Table x_slices_EqualFunc_api_Table_api_Table_api_Table_api_Table_L0) 53 [dat (sl v_s1), dat (sl v_s2), AVal.clo (Fn.func 54) [] []] [] γ K = Sp.B_slices_EqualFunc_api_Table_api_Table_api_Table_api_Table x_slices_EqualFunc_api_Table_api_Table_api_Table_api_Table_L0 v_s1 v_s2 γ (fun r0 => K ([(dat (Dat.bool r0), Own.none)], [])) := by kernel_rfl
def Sp.slices_EqualFunc_api_Table_api_Table_api_Table_api_Table : Ty_slices_EqualFunc_api_Table_api_Table_api_Table_api_Table := Sp.B_slices_EqualFunc_api_Table_api_Table_api_Table_api_Table (Sp.slices_EqualFunc_api_Table_api_Table_api_Table_api_Table_L0 fuel)
theorem E_slices_EqualFunc_api_Table_api_Table_api_Table_api_Table (p : Par) {F : Ent3} (hF : EntOk (cfg p) 53 F) : EntOk (cfg p) 53 (P_slices_EqualFunc_api_Table_api_Table_api_Table_api_Table Sp.slices_EqualFunc_api_Table_api_Table_api_Table_api_Table F) := by
  intro a s γ K q h
  unfold P_slices_EqualFunc_api_Table_api_Table_api_Table_api_Table at h
  split at h
  · exact body_ok (tab_loop (tab_nil _) (E_slices_EqualFunc_api_Table_api_Table_api_Table_api_Table_L0 p fuel (entL_none _ _ _))) rfl ((e_slices_EqualFunc_api_Table_api_Table_api_Table_api_Table p _ _ _ _ _).trans h)
  · exact hF _ _ _ _ _ h
abbrev Ty_catalog_Same : Type 1 := List (List Dat) → List (List Dat) → (γ : Type) → (Bool → Option γ) → Option γ
def P_catalog_Same (X : Ty_catalog_Same) (F : Ent3) : Ent3 := fun a s γ K => match a, s with
  | [dat (sl v_a), dat (sl v_b)], [] => X v_a v_b γ (fun r0 => K ([(dat (Dat.bool r0), Own.none)], []))
  | a, s => F a s γ K
def T_catalog_Same (x_slices_EqualFunc_api_Table_api_Table_api_Table_api_Table : Ty_slices_EqualFunc_api_Table_api_Table_api_Table_api_Table) : CallK := (addK noneK 53 (P_slices_EqualFunc_api_Table_api_Table_api_Table_api_Table x_slices_EqualFunc_api_Table_api_Table_api_Table_api_Table none3))
def L_catalog_Same (x_slices_EqualFunc_api_Table_api_Table_api_Table_api_Table : Ty_slices_EqualFunc_api_Table_api_Table_api_Table_api_Table) : LoopK := noneL
def Sp.B_catalog_Same (x_slices_EqualFunc_api_Table_api_Table_api_Table_api_Table : Ty_slices_EqualFunc_api_Table_api_Table_api_Table_api_Table) (v_a v_b : List (List Dat)) (γ : Type) (K : Bool → Option γ) : Option γ := x_slices_EqualFunc_api_Table_api_Table_api_Table_api_Table v_a v_b γ fun z4 => K z4
theorem e_catalog_Same (p : Par) (x_slices_EqualFunc_api_Table_api_Table_api_Table_api_Table v_a v_b) (γ : Type) (K : List Ent × Sig → Option γ) : evFK (cfg p) (T_catalog_Same x_slices_EqualFunc_api_Table_api_Table_api_Table_api_Table) (L_catalog_Same x_slices_EqualFunc_api_Table_api_Table_api_Table_api_Table) 24 [dat (sl v_a), dat (sl v_b)] [] γ K = Sp.B_catalog_Same x_slices_EqualFunc_api_Table_api_Table_api_Table_api_Table v_a v_b γ (fun r0 => K ([(dat (Dat.bool r0), Own.none)], [])) := by kernel_rfl
def Sp.catalog_Same : Ty_catalog_Same := Sp.B_catalog_Same Sp.slices_EqualFunc_api_Table_api_Table_api_Table_api_Table
theorem E_catalog_Same (p : Par) {F : Ent3} (hF : EntOk (cfg p) 24 F) : EntOk (cfg p) 24 (P_catalog_Same Sp.catalog_Same F) := by
  intro a s γ K q h
  unfold P_catalog_Same at h
  split at h
  · exact body_ok (tab_call (tab_nil _) (E_slices_EqualFunc_api_Table_api_Table_api_Table_api_Table p (ent_none _ _))) rfl ((e_catalog_Same p _ _ _ _ _).trans h)
  · exact hF _ _ _ _ _ h
abbrev Ty_catalog_kind : Type 1 := Int → (γ : Type) → (ByteArray → Option γ) → Option γ
def P_catalog_kind (X : Ty_catalog_kind) (F : Ent3) : Ent3 := fun a s γ K => match a, s with
  | [dat (int i64 v_n)], [] => X v_n γ (fun r0 => K ([(dat (str r0), Own.none)], []))
  | a, s => F a s γ K
def T_catalog_kind : CallK := noneK
def L_catalog_kind : LoopK := noneL
def Sp.B_catalog_kind (v_n : Int) (γ : Type) (K : ByteArray → Option γ) : Option γ := bif decide (v_n = 1) then K (bs [66, 79, 79, 76]) else bif decide (v_n = 2) then K (bs [73, 78, 84]) else bif decide (v_n = 3) then K (bs [84, 69, 88, 84]) else K (bs [63])
theorem e_catalog_kind (p : Par) (v_n) (γ : Type) (K : List Ent × Sig → Option γ) : evFK (cfg p) (T_catalog_kind) (L_catalog_kind) 48 [dat (int i64 v_n)] [] γ K = Sp.B_catalog_kind v_n γ (fun r0 => K ([(dat (str r0), Own.none)], [])) := by kernel_rfl
def Sp.catalog_kind : Ty_catalog_kind := Sp.B_catalog_kind 
theorem E_catalog_kind (p : Par) {F : Ent3} (hF : EntOk (cfg p) 48 F) : EntOk (cfg p) 48 (P_catalog_kind Sp.catalog_kind F) := by
  intro a s γ K q h
  unfold P_catalog_kind at h
  split at h
  · exact body_ok (tab_nil _) rfl ((e_catalog_kind p _ _ _).trans h)
  · exact hF _ _ _ _ _ h
abbrev Ty_catalog_Show_L0 : Type 1 := List (List Dat) → Int → List (List Dat) → Int → ByteArray → List (List Dat) → List (List Dat) → (γ : Type) → (Ex → List (List Dat) → Int → ByteArray → List (List Dat) → List (List Dat) → Option γ) → Option γ
def P_catalog_Show_L0 (X : Ty_catalog_Show_L0) (F : Loop3) : Loop3 := fun a s γ K => match a, s with
  | [AVal.loc 1 0, dat (sl v_), dat (int i64 v__1)], ([dat (sl v_l), dat (int i64 v__2), agg [(str w0, Own.none), (sl w1, Own.none), (sl w2, Own.none)]], []) => X v_ v__1 v_l v__2 w0 w1 w2 γ (fun e x0 x1 x2 x3 x4 => K (e, ([dat (sl x0), dat (int i64 x1), agg [(str x2, Own.none), (sl x3, Own.none), (sl x4, Own.none)]], [])))
  | a, s => F a s γ K
def T_catalog_Show_L0 (x_catalog_kind : Ty_catalog_kind) : CallK := (addK noneK 48 (P_catalog_kind x_catalog_kind none3))
def L_catalog_Show_L0 (x_catalog_kind : Ty_catalog_kind) : LoopK := noneL
def Sp.B_catalog_Show_L0 (x_catalog_Show_L0 : Ty_catalog_Show_L0) (x_catalog_kind : Ty_catalog_kind) (v_ : List (List Dat)) (v__1 : Int) (v_l : List (List Dat)) (v__2 : Int) (w0 : ByteArray) (w1 w2 : List (List Dat)) (γ : Type) (K : Ex → List (List Dat) → Int → ByteArray → List (List Dat) → List (List Dat) → Option γ) : Option γ := bif sized v_l 1 then bif decide (v__2 < v__1) then elemAt v_ v__2 fun z9 => bif List.length z9 == 3 then cellAt z9 0 fun z10 => asStr z10 fun z11 => cellAt z9 1 fun z12 => asStr z12 fun z13 => cellAt z9 2 fun z14 => Aev.asInt i64 z14 fun z15 => bif decide (ByteArray.size z13 + 1 ≤ 1152921504606846976) then x_catalog_kind z15 γ fun z16 => bif decide (ByteArray.size (z13 ++ bs [32]) + ByteArray.size z16 ≤ 1152921504606846976) then bif sized v_l 1 && true && true && decide ((List.length v_l + 1) * 17 ≤ 70368744177664) && true then x_catalog_Show_L0 v_ v__1 (v_l ++ [[str (z13 ++ bs [32] ++ z16)]]) (IntKind.wrap i64 (v__2 + 1)) w0 w1 w2 γ K else none else none else none else none else K (Ex.exit 0) v_l v__2 w0 w1 w2 else none
theorem e_catalog_Show_L0 (p : Par) (x_catalog_Show_L0 : Ty_catalog_Show_L0) (x_catalog_kind v_ v__1 v_l v__2 w0 w1 w2) (γ : Type) (K : Ex × Vars → Option γ) : roundK (cfg p) (T_catalog_Show_L0 x_catalog_kind) (L_catalog_Show_L0 x_catalog_kind) 20 0 [AVal.loc 1 0, dat (sl v_), dat (int i64 v__1)] ([dat (sl v_l), dat (int i64 v__2), agg [(str w0, Own.none), (sl w1, Own.none), (sl w2, Own.none)]], []) γ (contL (fun v => P_catalog_Show_L0 x_catalog_Show_L0 noneL3 [AVal.loc 1 0, dat (sl v_), dat (int i64 v__1)] v γ K) K) = Sp.B_catalog_Show_L0 x_catalog_Show_L0 x_catalog_kind v_ v__1 v_l v__2 w0 w1 w2 γ (fun e x0 x1 x2 x3 x4 => K (e, ([dat (sl x0), dat (int i64 x1), agg [(str x2, Own.none), (sl x3, Own.none), (sl x4, Own.none)]], []))) := by kernel_rfl
def Sp.catalog_Show_L0 : Nat → Ty_catalog_Show_L0
  | 0 => fun _ _ _ _ _ _ _ _ _ => none
  | n + 1 => Sp.B_catalog_Show_L0 (Sp.catalog_Show_L0 n) Sp.catalog_kind
theorem E0_catalog_Show_L0 (p : Par)   : ∀ n, EntOkL (cfg p) 20 0 (P_catalog_Show_L0 (Sp.catalog_Show_L0 n) noneL3) := entL_rounds (tab_call (tab_nil _) (E_catalog_kind p (ent_none _ _))) (by kernel_rfl) (fun c v γ K => by unfold P_catalog_Show_L0; split <;> rfl) fun n c v γ K q h => by
  unfold P_catalog_Show_L0 at h
  split at h
  · exact (e_catalog_Show_L0 p _ _ _ _ _ _ _ _ _ _ _).trans h
  · cases h
theorem E_catalog_Show_L0 (p : Par)   (n : Nat) {F : Loop3} (hF : EntOkL (cfg p) 20 0 F) : EntOkL (cfg p) 20 0 (P_catalog_Show_L0 (Sp.catalog_Show_L0 n) F) := by
  intro c v γ K q h
  unfold P_catalog_Show_L0 at h
  split at h
  · exact E0_catalog_Show_L0 p n _ _ _ _ _ h
  · exact hF _ _ _ _ _ h
abbrev Ty_catalog_Show : Type 1 := ByteArray → List (List Dat) → List (List Dat) → (γ : Type) → (ByteArray → Option γ) → Option γ
def P_catalog_Show (X : Ty_catalog_Show) (F : Ent3) : Ent3 := fun a s γ K => match a, s with
  | [agg [(str v_t0, Own.none), (sl v_t1, Own.none), (sl v_t2, Own.none)]], [] => X v_t0 v_t1 v_t2 γ (fun r0 => K ([(dat (str r0), Own.none)], []))
  | a, s => F a s γ K
def T_catalog_Show (x_catalog_Show_L0 : Ty_catalog_Show_L0) (x_strings_Join : Ty_strings_Join) : CallK := (addK noneK 49 (P_strings_Join x_strings_Join none3))
def L_catalog_Show (x_catalog_Show_L0 : Ty_catalog_Show_L0) (x_strings_Join : Ty_strings_Join) : LoopK := (addL noneL 20 0 (P_catalog_Show_L0 x_catalog_Show_L0 noneL3))
def Sp.B_catalog_Show (x_catalog_Show_L0 : Ty_catalog_Show_L0) (x_strings_Join : Ty_strings_Join) (v_t0 : ByteArray) (v_t1 v_t2 : List (List Dat)) (γ : Type) (K : ByteArray → Option γ) : Option γ := x_catalog_Show_L0 v_t1 (Int.ofNat (List.length v_t1)) [] 0 v_t0 v_t1 v_t2 γ fun z5 z6 z7 z8 z9 z10 => bif sized z6 1 then bif Ex.isExit z5 0 then bif decide (ByteArray.size z8 + 1 ≤ 1152921504606846976) then x_strings_Join z6 (bs [44, 32]) γ fun z11 => bif decide (ByteArray.size (z8 ++ bs [40]) + ByteArray.size z11 ≤ 1152921504606846976) then bif decide (ByteArray.size (z8 ++ bs [40] ++ z11) + 1 ≤ 1152921504606846976) then K (z8 ++ bs [40] ++ z11 ++ bs [41]) else none else none else none else bif Ex.isRet z5 then none else none else none
theorem e_catalog_Show (p : Par) (x_catalog_Show_L0 x_strings_Join v_t0 v_t1 v_t2) (γ : Type) (K : List Ent × Sig → Option γ) : evFK (cfg p) (T_catalog_Show x_catalog_Show_L0 x_strings_Join) (L_catalog_Show x_catalog_Show_L0 x_strings_Join) 20 [agg [(str v_t0, Own.none), (sl v_t1, Own.none), (sl v_t2, Own.none)]] [] γ K = Sp.B_catalog_Show x_catalog_Show_L0 x_strings_Join v_t0 v_t1 v_t2 γ (fun r0 => K ([(dat (str r0), Own.none)], [])) := by kernel_rfl
def Sp.catalog_Show : Ty_catalog_Show := Sp.B_catalog_Show (Sp.catalog_Show_L0 fuel) Sp.strings_Join
theorem E_catalog_Show (p : Par) {F : Ent3} (hF : EntOk (cfg p) 20 F) : EntOk (cfg p) 20 (P_catalog_Show Sp.catalog_Show F) := by
  intro a s γ K q h
  unfold P_catalog_Show at h
  split at h
  · exact body_ok (tab_loop (tab_call (tab_nil _) (E_strings_Join p (ent_none _ _))) (E_catalog_Show_L0 p fuel (entL_none _ _ _))) rfl ((e_catalog_Show p _ _ _ _ _ _ _).trans h)
  · exact hF _ _ _ _ _ h
abbrev Ty_law13_lives : Type 1 := (γ : Type) → (Bool → Option γ) → Option γ
def P_law13_lives (X : Ty_law13_lives) (F : Ent3) : Ent3 := fun a s γ K => match a, s with
  | [], [] => X γ (fun r0 => K ([(dat (Dat.bool r0), Own.none)], []))
  | a, s => F a s γ K
def T_law13_lives (x_law13_Small : Ty_law13_Small) (x_catalog_Find : Ty_catalog_Find) (x_catalog_Pages : Ty_catalog_Pages) (x_catalog_Columns : Ty_catalog_Columns) (x_catalog_Check : Ty_catalog_Check) (x_catalog_Fits : Ty_catalog_Fits) (x_catalog_Same : Ty_catalog_Same) (x_catalog_Show : Ty_catalog_Show) (x_catalog_Table : Ty_catalog_Table) : CallK := (addK (addK (addK (addK (addK (addK (addK (addK (addK noneK 29 (P_law13_Small x_law13_Small none3)) 11 (P_catalog_Find x_catalog_Find none3)) 25 (P_catalog_Pages x_catalog_Pages none3)) 18 (P_catalog_Columns x_catalog_Columns none3)) 13 (P_catalog_Check x_catalog_Check none3)) 22 (P_catalog_Fits x_catalog_Fits none3)) 24 (P_catalog_Same x_catalog_Same none3)) 20 (P_catalog_Show x_catalog_Show none3)) 14 (P_catalog_Table x_catalog_Table none3))
def L_law13_lives (x_law13_Small : Ty_law13_Small) (x_catalog_Find : Ty_catalog_Find) (x_catalog_Pages : Ty_catalog_Pages) (x_catalog_Columns : Ty_catalog_Columns) (x_catalog_Check : Ty_catalog_Check) (x_catalog_Fits : Ty_catalog_Fits) (x_catalog_Same : Ty_catalog_Same) (x_catalog_Show : Ty_catalog_Show) (x_catalog_Table : Ty_catalog_Table) : LoopK := noneL
def Sp.B_law13_lives (x_law13_Small : Ty_law13_Small) (x_catalog_Find : Ty_catalog_Find) (x_catalog_Pages : Ty_catalog_Pages) (x_catalog_Columns : Ty_catalog_Columns) (x_catalog_Check : Ty_catalog_Check) (x_catalog_Fits : Ty_catalog_Fits) (x_catalog_Same : Ty_catalog_Same) (x_catalog_Show : Ty_catalog_Show) (x_catalog_Table : Ty_catalog_Table)  (γ : Type) (K : Bool → Option γ) : Option γ := x_law13_Small (bs [116]) γ fun z2 z3 z4 => x_law13_Small (bs [117]) γ fun z5 z6 z7 => x_catalog_Find [[str z2, sl z3, sl z4], [str z5, sl z6, sl z7]] (bs [117]) γ fun z8 z9 z10 z11 => x_catalog_Find [[str z2, sl z3, sl z4], [str z5, sl z6, sl z7]] (bs [118]) γ fun z12 z13 z14 z15 => x_catalog_Pages z8 z9 z10 γ fun z16 z17 => x_catalog_Columns z8 z9 z10 (bs [119]) γ fun z18 => x_catalog_Check [[str z2, sl z3, sl z4], [str z5, sl z6, sl z7]] γ fun z19 => bif decide (z19 = 0) then x_catalog_Check [[str z2, sl z3, sl z4], [str z5, sl z6, sl z7], [str z2, sl z3, sl z4]] γ fun z20 => bif decide (z20 = 130) then bif z11 then bif decide (z8 = bs [117]) then bif !z15 then bif decide (z17 = 0) then bif decide (Int.ofNat (List.length z16) = 1) then bif decide (Int.ofNat (List.length z18) = 2) then elemAt z18 1 fun z21 => bif List.length z21 == 3 then cellAt z21 0 fun z22 => asStr z22 fun z23 => cellAt z21 1 fun z24 => asStr z24 fun z25 => cellAt z21 2 fun z26 => Aev.asInt i64 z26 fun z27 => bif decide (z23 = bs [119]) && (decide (z25 = bs [98]) && (decide (z27 = 3) && true)) then elemAt z10 1 fun z28 => bif List.length z28 == 1 then cellAt z28 0 fun z29 => asSl z29 fun z30 => x_catalog_Fits z18 z30 γ fun z31 => bif z31 then x_catalog_Fits z18 [] γ fun z32 => bif !z32 then x_catalog_Same [[str z2, sl z3, sl z4], [str z5, sl z6, sl z7]] [[str z2, sl z3, sl z4], [str z5, sl z6, sl z7]] γ fun z33 => bif z33 then x_catalog_Same [[str z2, sl z3, sl z4], [str z5, sl z6, sl z7]] [] γ fun z34 => bif !z34 then x_catalog_Show z8 z9 z10 γ fun z35 => bif decide (z35 = bs [117, 40, 97, 32, 73, 78, 84, 44, 32, 98, 32, 84, 69, 88, 84, 41]) then x_catalog_Table (bs []) [] [] γ fun z36 => K (decide (z36 = 130)) else K false else K false else K false else K false else K false else none else K false else none else K false else K false else K false else K false else K false else K false else K false else K false
theorem e_law13_lives (p : Par) (x_law13_Small x_catalog_Find x_catalog_Pages x_catalog_Columns x_catalog_Check x_catalog_Fits x_catalog_Same x_catalog_Show x_catalog_Table) (γ : Type) (K : List Ent × Sig → Option γ) : evFK (cfg p) (T_law13_lives x_law13_Small x_catalog_Find x_catalog_Pages x_catalog_Columns x_catalog_Check x_catalog_Fits x_catalog_Same x_catalog_Show x_catalog_Table) (L_law13_lives x_law13_Small x_catalog_Find x_catalog_Pages x_catalog_Columns x_catalog_Check x_catalog_Fits x_catalog_Same x_catalog_Show x_catalog_Table) 9 [] [] γ K = Sp.B_law13_lives x_law13_Small x_catalog_Find x_catalog_Pages x_catalog_Columns x_catalog_Check x_catalog_Fits x_catalog_Same x_catalog_Show x_catalog_Table γ (fun r0 => K ([(dat (Dat.bool r0), Own.none)], [])) := by kernel_rfl
def Sp.law13_lives : Ty_law13_lives := Sp.B_law13_lives Sp.law13_Small Sp.catalog_Find Sp.catalog_Pages Sp.catalog_Columns Sp.catalog_Check Sp.catalog_Fits Sp.catalog_Same Sp.catalog_Show Sp.catalog_Table
theorem E_law13_lives (p : Par) {F : Ent3} (hF : EntOk (cfg p) 9 F) : EntOk (cfg p) 9 (P_law13_lives Sp.law13_lives F) := by
  intro a s γ K q h
  unfold P_law13_lives at h
  split at h
  · exact body_ok (tab_call (tab_call (tab_call (tab_call (tab_call (tab_call (tab_call (tab_call (tab_call (tab_nil _) (E_law13_Small p (ent_none _ _))) (E_catalog_Find p (ent_none _ _))) (E_catalog_Pages p (ent_none _ _))) (E_catalog_Columns p (ent_none _ _))) (E_catalog_Check p (ent_none _ _))) (E_catalog_Fits p (ent_none _ _))) (E_catalog_Same p (ent_none _ _))) (E_catalog_Show p (ent_none _ _))) (E_catalog_Table p (ent_none _ _))) rfl ((e_law13_lives p _ _ _ _ _ _ _ _ _ _ _).trans h)
  · exact hF _ _ _ _ _ h
abbrev Ty_ref09_digit : Type 1 := Int → (γ : Type) → (Bool → Option γ) → Option γ
def P_ref09_digit (X : Ty_ref09_digit) (F : Ent3) : Ent3 := fun a s γ K => match a, s with
  | [dat (Dat.int IntKind.u8 v_c)], [] => X v_c γ (fun r0 => K ([(dat (Dat.bool r0), Own.none)], []))
  | a, s => F a s γ K
def T_ref09_digit : CallK := noneK
def L_ref09_digit : LoopK := noneL
def Sp.B_ref09_digit (v_c : Int) (γ : Type) (K : Bool → Option γ) : Option γ := bif decide (48 ≤ v_c) then K (decide (v_c ≤ 57)) else K false
theorem e_ref09_digit (p : Par) (v_c) (γ : Type) (K : List Ent × Sig → Option γ) : evFK (cfg p) (T_ref09_digit) (L_ref09_digit) 68 [dat (Dat.int IntKind.u8 v_c)] [] γ K = Sp.B_ref09_digit v_c γ (fun r0 => K ([(dat (Dat.bool r0), Own.none)], [])) := by kernel_rfl
def Sp.ref09_digit : Ty_ref09_digit := Sp.B_ref09_digit 
theorem E_ref09_digit (p : Par) {F : Ent3} (hF : EntOk (cfg p) 68 F) : EntOk (cfg p) 68 (P_ref09_digit Sp.ref09_digit F) := by
  intro a s γ K q h
  unfold P_ref09_digit at h
  split at h
  · exact body_ok (tab_nil _) rfl ((e_ref09_digit p _ _ _).trans h)
  · exact hF _ _ _ _ _ h
abbrev Ty_ref09_Keys : Type 1 := (γ : Type) → (List (List Dat) → Option γ) → Option γ
def P_ref09_Keys (X : Ty_ref09_Keys) (F : Ent3) : Ent3 := fun a s γ K => match a, s with
  | [], [] => X γ (fun r0 => K ([(dat (sl r0), Own.none)], []))
  | a, s => F a s γ K
def T_ref09_Keys : CallK := noneK
def L_ref09_Keys : LoopK := noneL
def Sp.B_ref09_Keys (γ : Type) (K : List (List Dat) → Option γ) : Option γ := K [[str (bs [65, 76, 76])], [str (bs [65, 78, 68])], [str (bs [65, 78, 84, 73])], [str (bs [65, 83])], [str (bs [66, 89])], [str (bs [67, 79, 85, 78, 84])], [str (bs [68, 69, 83, 67])], [str (bs [68, 73, 83, 84, 73, 78, 67, 84])], [str (bs [70, 65, 76, 83, 69])], [str (bs [70, 82, 79, 77])], [str (bs [71, 82, 79, 85, 80])], [str (bs [73, 83])], [str (bs [74, 79, 73, 78])], [str (bs [76, 69, 70, 84])], [str (bs [76, 73, 77, 73, 84])], [str (bs [77, 65, 88])], [str (bs [77, 73, 78])], [str (bs [78, 79, 84])], [str (bs [78, 85, 76, 76])], [str (bs [79, 78])], [str (bs [79, 82])], [str (bs [79, 82, 68, 69, 82])], [str (bs [83, 69, 76, 69, 67, 84])], [str (bs [83, 69, 77, 73])], [str (bs [83, 85, 77])], [str (bs [84, 82, 85, 69])], [str (bs [85, 78, 73, 79, 78])], [str (bs [87, 72, 69, 82, 69])]]
theorem e_ref09_Keys (p : Par)  (γ : Type) (K : List Ent × Sig → Option γ) : evFK (cfg p) (T_ref09_Keys) (L_ref09_Keys) 91 [] [] γ K = Sp.B_ref09_Keys γ (fun r0 => K ([(dat (sl r0), Own.none)], [])) := by kernel_rfl
def Sp.ref09_Keys : Ty_ref09_Keys := Sp.B_ref09_Keys 
theorem E_ref09_Keys (p : Par) {F : Ent3} (hF : EntOk (cfg p) 91 F) : EntOk (cfg p) 91 (P_ref09_Keys Sp.ref09_Keys F) := by
  intro a s γ K q h
  unfold P_ref09_Keys at h
  split at h
  · exact body_ok (tab_nil _) rfl ((e_ref09_Keys p _ _).trans h)
  · exact hF _ _ _ _ _ h
abbrev Ty_ref09_Key_L0 : Type 1 := ByteArray → List (List Dat) → Bool → Int → (γ : Type) → (Ex → Bool → Int → Option γ) → Option γ
def P_ref09_Key_L0 (X : Ty_ref09_Key_L0) (F : Loop3) : Loop3 := fun a s γ K => match a, s with
  | [dat (str v_word), dat (sl v_l)], ([dat (Dat.bool v_), dat (int i64 v_i)], []) => X v_word v_l v_ v_i γ (fun e x0 x1 => K (e, ([dat (Dat.bool x0), dat (int i64 x1)], [])))
  | a, s => F a s γ K
def T_ref09_Key_L0 : CallK := noneK
def L_ref09_Key_L0 : LoopK := noneL
def Sp.B_ref09_Key_L0 (x_ref09_Key_L0 : Ty_ref09_Key_L0)  (v_word : ByteArray) (v_l : List (List Dat)) (v_ : Bool) (v_i : Int) (γ : Type) (K : Ex → Bool → Int → Option γ) : Option γ := bif decide (v_i < Int.ofNat (List.length v_l)) then elemAt v_l v_i fun z6 => bif List.length z6 == 1 then cellAt z6 0 fun z7 => asStr z7 fun z8 => bif decide (z8 = v_word) then K Ex.ret true v_i else x_ref09_Key_L0 v_word v_l v_ (IntKind.wrap i64 (v_i + 1)) γ K else none else K (Ex.exit 0) v_ v_i
theorem e_ref09_Key_L0 (p : Par) (x_ref09_Key_L0 : Ty_ref09_Key_L0) (v_word v_l v_ v_i) (γ : Type) (K : Ex × Vars → Option γ) : roundK (cfg p) (T_ref09_Key_L0) (L_ref09_Key_L0) 69 0 [dat (str v_word), dat (sl v_l)] ([dat (Dat.bool v_), dat (int i64 v_i)], []) γ (contL (fun v => P_ref09_Key_L0 x_ref09_Key_L0 noneL3 [dat (str v_word), dat (sl v_l)] v γ K) K) = Sp.B_ref09_Key_L0 x_ref09_Key_L0 v_word v_l v_ v_i γ (fun e x0 x1 => K (e, ([dat (Dat.bool x0), dat (int i64 x1)], []))) := by kernel_rfl
def Sp.ref09_Key_L0 : Nat → Ty_ref09_Key_L0
  | 0 => fun _ _ _ _ _ _ => none
  | n + 1 => Sp.B_ref09_Key_L0 (Sp.ref09_Key_L0 n) 
theorem E0_ref09_Key_L0 (p : Par)   : ∀ n, EntOkL (cfg p) 69 0 (P_ref09_Key_L0 (Sp.ref09_Key_L0 n) noneL3) := entL_rounds (tab_nil _) (by kernel_rfl) (fun c v γ K => by unfold P_ref09_Key_L0; split <;> rfl) fun n c v γ K q h => by
  unfold P_ref09_Key_L0 at h
  split at h
  · exact (e_ref09_Key_L0 p _ _ _ _ _ _ _).trans h
  · cases h
theorem E_ref09_Key_L0 (p : Par)   (n : Nat) {F : Loop3} (hF : EntOkL (cfg p) 69 0 F) : EntOkL (cfg p) 69 0 (P_ref09_Key_L0 (Sp.ref09_Key_L0 n) F) := by
  intro c v γ K q h
  unfold P_ref09_Key_L0 at h
  split at h
  · exact E0_ref09_Key_L0 p n _ _ _ _ _ h
  · exact hF _ _ _ _ _ h
abbrev Ty_ref09_Key : Type 1 := ByteArray → (γ : Type) → (Bool → Option γ) → Option γ
def P_ref09_Key (X : Ty_ref09_Key) (F : Ent3) : Ent3 := fun a s γ K => match a, s with
  | [dat (str v_word)], [] => X v_word γ (fun r0 => K ([(dat (Dat.bool r0), Own.none)], []))
  | a, s => F a s γ K
def T_ref09_Key (x_ref09_Keys : Ty_ref09_Keys) (x_ref09_Key_L0 : Ty_ref09_Key_L0) : CallK := (addK noneK 91 (P_ref09_Keys x_ref09_Keys none3))
def L_ref09_Key (x_ref09_Keys : Ty_ref09_Keys) (x_ref09_Key_L0 : Ty_ref09_Key_L0) : LoopK := (addL noneL 69 0 (P_ref09_Key_L0 x_ref09_Key_L0 noneL3))
def Sp.B_ref09_Key (x_ref09_Keys : Ty_ref09_Keys) (x_ref09_Key_L0 : Ty_ref09_Key_L0) (v_word : ByteArray) (γ : Type) (K : Bool → Option γ) : Option γ := x_ref09_Keys γ fun z3 => x_ref09_Key_L0 v_word z3 false 0 γ fun z4 z5 z6 => bif Ex.isExit z4 0 then K false else bif Ex.isRet z4 then K z5 else none
theorem e_ref09_Key (p : Par) (x_ref09_Keys x_ref09_Key_L0 v_word) (γ : Type) (K : List Ent × Sig → Option γ) : evFK (cfg p) (T_ref09_Key x_ref09_Keys x_ref09_Key_L0) (L_ref09_Key x_ref09_Keys x_ref09_Key_L0) 69 [dat (str v_word)] [] γ K = Sp.B_ref09_Key x_ref09_Keys x_ref09_Key_L0 v_word γ (fun r0 => K ([(dat (Dat.bool r0), Own.none)], [])) := by kernel_rfl
def Sp.ref09_Key : Ty_ref09_Key := Sp.B_ref09_Key Sp.ref09_Keys (Sp.ref09_Key_L0 fuel)
theorem E_ref09_Key (p : Par) {F : Ent3} (hF : EntOk (cfg p) 69 F) : EntOk (cfg p) 69 (P_ref09_Key Sp.ref09_Key F) := by
  intro a s γ K q h
  unfold P_ref09_Key at h
  split at h
  · exact body_ok (tab_loop (tab_call (tab_nil _) (E_ref09_Keys p (ent_none _ _))) (E_ref09_Key_L0 p fuel (entL_none _ _ _))) rfl ((e_ref09_Key p _ _ _ _ _).trans h)
  · exact hF _ _ _ _ _ h
abbrev Ty_ref09_letter : Type 1 := Int → (γ : Type) → (Bool → Option γ) → Option γ
def P_ref09_letter (X : Ty_ref09_letter) (F : Ent3) : Ent3 := fun a s γ K => match a, s with
  | [dat (Dat.int IntKind.u8 v_c)], [] => X v_c γ (fun r0 => K ([(dat (Dat.bool r0), Own.none)], []))
  | a, s => F a s γ K
def T_ref09_letter : CallK := noneK
def L_ref09_letter : LoopK := noneL
def Sp.B_ref09_letter (v_c : Int) (γ : Type) (K : Bool → Option γ) : Option γ := bif decide (97 ≤ v_c) then bif decide (v_c ≤ 122) then K true else bif decide (65 ≤ v_c) then bif decide (v_c ≤ 90) then K true else K (decide (v_c = 95)) else K (decide (v_c = 95)) else bif decide (65 ≤ v_c) then bif decide (v_c ≤ 90) then K true else K (decide (v_c = 95)) else K (decide (v_c = 95))
theorem e_ref09_letter (p : Par) (v_c) (γ : Type) (K : List Ent × Sig → Option γ) : evFK (cfg p) (T_ref09_letter) (L_ref09_letter) 70 [dat (Dat.int IntKind.u8 v_c)] [] γ K = Sp.B_ref09_letter v_c γ (fun r0 => K ([(dat (Dat.bool r0), Own.none)], [])) := by kernel_rfl
def Sp.ref09_letter : Ty_ref09_letter := Sp.B_ref09_letter 
theorem E_ref09_letter (p : Par) {F : Ent3} (hF : EntOk (cfg p) 70 F) : EntOk (cfg p) 70 (P_ref09_letter Sp.ref09_letter F) := by
  intro a s γ K q h
  unfold P_ref09_letter at h
  split at h
  · exact body_ok (tab_nil _) rfl ((e_ref09_letter p _ _ _).trans h)
  · exact hF _ _ _ _ _ h
abbrev Ty_ref09_Name_L0 : Type 1 := ByteArray → Bool → Int → (γ : Type) → (Ex → Bool → Int → Option γ) → Option γ
def P_ref09_Name_L0 (X : Ty_ref09_Name_L0) (F : Loop3) : Loop3 := fun a s γ K => match a, s with
  | [dat (str v_s)], ([dat (Dat.bool v_), dat (int i64 v_i)], []) => X v_s v_ v_i γ (fun e x0 x1 => K (e, ([dat (Dat.bool x0), dat (int i64 x1)], [])))
  | a, s => F a s γ K
def T_ref09_Name_L0 (x_ref09_letter : Ty_ref09_letter) (x_ref09_digit : Ty_ref09_digit) : CallK := (addK (addK noneK 70 (P_ref09_letter x_ref09_letter none3)) 68 (P_ref09_digit x_ref09_digit none3))
def L_ref09_Name_L0 (x_ref09_letter : Ty_ref09_letter) (x_ref09_digit : Ty_ref09_digit) : LoopK := noneL
def Sp.B_ref09_Name_L0 (x_ref09_Name_L0 : Ty_ref09_Name_L0) (x_ref09_letter : Ty_ref09_letter) (x_ref09_digit : Ty_ref09_digit) (v_s : ByteArray) (v_ : Bool) (v_i : Int) (γ : Type) (K : Ex → Bool → Int → Option γ) : Option γ := bif decide (v_i < Int.ofNat (ByteArray.size v_s)) then byteAt v_s v_i fun z5 => x_ref09_letter (Int.ofNat (BitVec.toFin (UInt8.toBitVec z5)).1) γ fun z6 => bif !z6 then byteAt v_s v_i fun z7 => x_ref09_digit (Int.ofNat (BitVec.toFin (UInt8.toBitVec z7)).1) γ fun z8 => bif !z8 then K Ex.ret false v_i else x_ref09_Name_L0 v_s v_ (IntKind.wrap i64 (v_i + 1)) γ K else x_ref09_Name_L0 v_s v_ (IntKind.wrap i64 (v_i + 1)) γ K else K (Ex.exit 0) v_ v_i
theorem e_ref09_Name_L0 (p : Par) (x_ref09_Name_L0 : Ty_ref09_Name_L0) (x_ref09_letter x_ref09_digit v_s v_ v_i) (γ : Type) (K : Ex × Vars → Option γ) : roundK (cfg p) (T_ref09_Name_L0 x_ref09_letter x_ref09_digit) (L_ref09_Name_L0 x_ref09_letter x_ref09_digit) 44 0 [dat (str v_s)] ([dat (Dat.bool v_), dat (int i64 v_i)], []) γ (contL (fun v => P_ref09_Name_L0 x_ref09_Name_L0 noneL3 [dat (str v_s)] v γ K) K) = Sp.B_ref09_Name_L0 x_ref09_Name_L0 x_ref09_letter x_ref09_digit v_s v_ v_i γ (fun e x0 x1 => K (e, ([dat (Dat.bool x0), dat (int i64 x1)], []))) := by kernel_rfl
def Sp.ref09_Name_L0 : Nat → Ty_ref09_Name_L0
  | 0 => fun _ _ _ _ _ => none
  | n + 1 => Sp.B_ref09_Name_L0 (Sp.ref09_Name_L0 n) Sp.ref09_letter Sp.ref09_digit
theorem E0_ref09_Name_L0 (p : Par)   : ∀ n, EntOkL (cfg p) 44 0 (P_ref09_Name_L0 (Sp.ref09_Name_L0 n) noneL3) := entL_rounds (tab_call (tab_call (tab_nil _) (E_ref09_letter p (ent_none _ _))) (E_ref09_digit p (ent_none _ _))) (by kernel_rfl) (fun c v γ K => by unfold P_ref09_Name_L0; split <;> rfl) fun n c v γ K q h => by
  unfold P_ref09_Name_L0 at h
  split at h
  · exact (e_ref09_Name_L0 p _ _ _ _ _ _ _ _).trans h
  · cases h
theorem E_ref09_Name_L0 (p : Par)   (n : Nat) {F : Loop3} (hF : EntOkL (cfg p) 44 0 F) : EntOkL (cfg p) 44 0 (P_ref09_Name_L0 (Sp.ref09_Name_L0 n) F) := by
  intro c v γ K q h
  unfold P_ref09_Name_L0 at h
  split at h
  · exact E0_ref09_Name_L0 p n _ _ _ _ _ h
  · exact hF _ _ _ _ _ h
abbrev Ty_ref09_Name : Type 1 := ByteArray → (γ : Type) → (Bool → Option γ) → Option γ
def P_ref09_Name (X : Ty_ref09_Name) (F : Ent3) : Ent3 := fun a s γ K => match a, s with
  | [dat (str v_s)], [] => X v_s γ (fun r0 => K ([(dat (Dat.bool r0), Own.none)], []))
  | a, s => F a s γ K
def T_ref09_Name (x_ref09_digit : Ty_ref09_digit) (x_ref09_Key : Ty_ref09_Key) (x_ref09_Name_L0 : Ty_ref09_Name_L0) : CallK := (addK (addK noneK 68 (P_ref09_digit x_ref09_digit none3)) 69 (P_ref09_Key x_ref09_Key none3))
def L_ref09_Name (x_ref09_digit : Ty_ref09_digit) (x_ref09_Key : Ty_ref09_Key) (x_ref09_Name_L0 : Ty_ref09_Name_L0) : LoopK := (addL noneL 44 0 (P_ref09_Name_L0 x_ref09_Name_L0 noneL3))
def Sp.B_ref09_Name (x_ref09_digit : Ty_ref09_digit) (x_ref09_Key : Ty_ref09_Key) (x_ref09_Name_L0 : Ty_ref09_Name_L0) (v_s : ByteArray) (γ : Type) (K : Bool → Option γ) : Option γ := bif decide (Int.ofNat (ByteArray.size v_s) < 1) then K false else bif decide (24 < Int.ofNat (ByteArray.size v_s)) then K false else byteAt v_s 0 fun z3 => x_ref09_digit (Int.ofNat (BitVec.toFin (UInt8.toBitVec z3)).1) γ fun z4 => bif z4 then K false else x_ref09_Key v_s γ fun z5 => bif z5 then K false else x_ref09_Name_L0 v_s false 0 γ fun z6 z7 z8 => bif Ex.isExit z6 0 then K true else bif Ex.isRet z6 then K z7 else none
theorem e_ref09_Name (p : Par) (x_ref09_digit x_ref09_Key x_ref09_Name_L0 v_s) (γ : Type) (K : List Ent × Sig → Option γ) : evFK (cfg p) (T_ref09_Name x_ref09_digit x_ref09_Key x_ref09_Name_L0) (L_ref09_Name x_ref09_digit x_ref09_Key x_ref09_Name_L0) 44 [dat (str v_s)] [] γ K = Sp.B_ref09_Name x_ref09_digit x_ref09_Key x_ref09_Name_L0 v_s γ (fun r0 => K ([(dat (Dat.bool r0), Own.none)], [])) := by kernel_rfl
def Sp.ref09_Name : Ty_ref09_Name := Sp.B_ref09_Name Sp.ref09_digit Sp.ref09_Key (Sp.ref09_Name_L0 fuel)
theorem E_ref09_Name (p : Par) {F : Ent3} (hF : EntOk (cfg p) 44 F) : EntOk (cfg p) 44 (P_ref09_Name Sp.ref09_Name F) := by
  intro a s γ K q h
  unfold P_ref09_Name at h
  split at h
  · exact body_ok (tab_loop (tab_call (tab_call (tab_nil _) (E_ref09_digit p (ent_none _ _))) (E_ref09_Key p (ent_none _ _))) (E_ref09_Name_L0 p fuel (entL_none _ _ _))) rfl ((e_ref09_Name p _ _ _ _ _ _).trans h)
  · exact hF _ _ _ _ _ h
abbrev Ty_ref13_Table_L2 : Type 1 := Int → Bool → Int → ByteArray → List (List Dat) → List (List Dat) → ByteArray → ByteArray → Int → (γ : Type) → (Ex → Bool → Int → ByteArray → List (List Dat) → List (List Dat) → ByteArray → ByteArray → Int → Option γ) → Option γ
def P_ref13_Table_L2 (X : Ty_ref13_Table_L2) (F : Loop3) : Loop3 := fun a s γ K => match a, s with
  | [AVal.loc 1 0, dat (int i64 v_i), AVal.loc 4 0], ([dat (Dat.bool v_), dat (int i64 v_k), agg [(str w0, Own.none), (sl w1, Own.none), (sl w2, Own.none)], agg [(str w0_1, Own.none), (str w1_1, Own.none), (int i64 w2_1, Own.none)]], []) => X v_i v_ v_k w0 w1 w2 w0_1 w1_1 w2_1 γ (fun e x0 x1 x2 x3 x4 x5 x6 x7 => K (e, ([dat (Dat.bool x0), dat (int i64 x1), agg [(str x2, Own.none), (sl x3, Own.none), (sl x4, Own.none)], agg [(str x5, Own.none), (str x6, Own.none), (int i64 x7, Own.none)]], [])))
  | a, s => F a s γ K
def T_ref13_Table_L2 : CallK := noneK
def L_ref13_Table_L2 : LoopK := noneL
def Sp.B_ref13_Table_L2 (x_ref13_Table_L2 : Ty_ref13_Table_L2)  (v_i : Int) (v_ : Bool) (v_k : Int) (w0 : ByteArray) (w1 w2 : List (List Dat)) (w0_1 w1_1 : ByteArray) (w2_1 : Int) (γ : Type) (K : Ex → Bool → Int → ByteArray → List (List Dat) → List (List Dat) → ByteArray → ByteArray → Int → Option γ) : Option γ := bif decide (v_k < v_i) then elemAt w1 v_k fun z11 => bif List.length z11 == 3 then cellAt (List.drop 1 z11) 0 fun z12 => asStr z12 fun z13 => bif decide (z13 = w1_1) then K Ex.ret false v_k w0 w1 w2 w0_1 w1_1 w2_1 else x_ref13_Table_L2 v_i v_ (IntKind.wrap i64 (v_k + 1)) w0 w1 w2 w0_1 w1_1 w2_1 γ K else none else K (Ex.exit 2) v_ v_k w0 w1 w2 w0_1 w1_1 w2_1
theorem e_ref13_Table_L2 (p : Par) (x_ref13_Table_L2 : Ty_ref13_Table_L2) (v_i v_ v_k w0 w1 w2 w0_1 w1_1 w2_1) (γ : Type) (K : Ex × Vars → Option γ) : roundK (cfg p) (T_ref13_Table_L2) (L_ref13_Table_L2) 15 2 [AVal.loc 1 0, dat (int i64 v_i), AVal.loc 4 0] ([dat (Dat.bool v_), dat (int i64 v_k), agg [(str w0, Own.none), (sl w1, Own.none), (sl w2, Own.none)], agg [(str w0_1, Own.none), (str w1_1, Own.none), (int i64 w2_1, Own.none)]], []) γ (contL (fun v => P_ref13_Table_L2 x_ref13_Table_L2 noneL3 [AVal.loc 1 0, dat (int i64 v_i), AVal.loc 4 0] v γ K) K) = Sp.B_ref13_Table_L2 x_ref13_Table_L2 v_i v_ v_k w0 w1 w2 w0_1 w1_1 w2_1 γ (fun e x0 x1 x2 x3 x4 x5 x6 x7 => K (e, ([dat (Dat.bool x0), dat (int i64 x1), agg [(str x2, Own.none), (sl x3, Own.none), (sl x4, Own.none)], agg [(str x5, Own.none), (str x6, Own.none), (int i64 x7, Own.none)]], []))) := by kernel_rfl
def Sp.ref13_Table_L2 : Nat → Ty_ref13_Table_L2
  | 0 => fun _ _ _ _ _ _ _ _ _ _ _ => none
  | n + 1 => Sp.B_ref13_Table_L2 (Sp.ref13_Table_L2 n) 
theorem E0_ref13_Table_L2 (p : Par)   : ∀ n, EntOkL (cfg p) 15 2 (P_ref13_Table_L2 (Sp.ref13_Table_L2 n) noneL3) := entL_rounds (tab_nil _) (by kernel_rfl) (fun c v γ K => by unfold P_ref13_Table_L2; split <;> rfl) fun n c v γ K q h => by
  unfold P_ref13_Table_L2 at h
  split at h
  · exact (e_ref13_Table_L2 p _ _ _ _ _ _ _ _ _ _ _ _).trans h
  · cases h
theorem E_ref13_Table_L2 (p : Par)   (n : Nat) {F : Loop3} (hF : EntOkL (cfg p) 15 2 F) : EntOkL (cfg p) 15 2 (P_ref13_Table_L2 (Sp.ref13_Table_L2 n) F) := by
  intro c v γ K q h
  unfold P_ref13_Table_L2 at h
  split at h
  · exact E0_ref13_Table_L2 p n _ _ _ _ _ h
  · exact hF _ _ _ _ _ h
abbrev Ty_ref13_Table_L0 : Type 1 := Bool → Int → ByteArray → List (List Dat) → List (List Dat) → (γ : Type) → (Ex → Bool → Int → ByteArray → List (List Dat) → List (List Dat) → Option γ) → Option γ
def P_ref13_Table_L0 (X : Ty_ref13_Table_L0) (F : Loop3) : Loop3 := fun a s γ K => match a, s with
  | [AVal.loc 1 0], ([dat (Dat.bool v_), dat (int i64 v_i), agg [(str w0, Own.none), (sl w1, Own.none), (sl w2, Own.none)]], []) => X v_ v_i w0 w1 w2 γ (fun e x0 x1 x2 x3 x4 => K (e, ([dat (Dat.bool x0), dat (int i64 x1), agg [(str x2, Own.none), (sl x3, Own.none), (sl x4, Own.none)]], [])))
  | a, s => F a s γ K
def T_ref13_Table_L0 (x_ref09_Name : Ty_ref09_Name) (x_ref13_Table_L2 : Ty_ref13_Table_L2) : CallK := (addK noneK 44 (P_ref09_Name x_ref09_Name none3))
def L_ref13_Table_L0 (x_ref09_Name : Ty_ref09_Name) (x_ref13_Table_L2 : Ty_ref13_Table_L2) : LoopK := (addL noneL 15 2 (P_ref13_Table_L2 x_ref13_Table_L2 noneL3))
def Sp.B_ref13_Table_L0 (x_ref13_Table_L0 : Ty_ref13_Table_L0) (x_ref09_Name : Ty_ref09_Name) (x_ref13_Table_L2 : Ty_ref13_Table_L2) (v_ : Bool) (v_i : Int) (w0 : ByteArray) (w1 w2 : List (List Dat)) (γ : Type) (K : Ex → Bool → Int → ByteArray → List (List Dat) → List (List Dat) → Option γ) : Option γ := bif decide (v_i < Int.ofNat (List.length w1)) then elemAt w1 v_i fun z7 => bif List.length z7 == 3 then cellAt z7 0 fun z8 => asStr z8 fun z9 => cellAt z7 1 fun z10 => asStr z10 fun z11 => cellAt z7 2 fun z12 => Aev.asInt i64 z12 fun z13 => bif !decide (z9 = bs []) then K Ex.ret false v_i w0 w1 w2 else x_ref09_Name z11 γ fun z14 => bif !z14 then K Ex.ret false v_i w0 w1 w2 else bif decide (z13 < 1) then K Ex.ret false v_i w0 w1 w2 else bif decide (3 < z13) then K Ex.ret false v_i w0 w1 w2 else x_ref13_Table_L2 v_i v_ 0 w0 w1 w2 z9 z11 z13 γ fun z15 z16 z17 z18 z19 z20 z21 z22 z23 => bif Ex.isExit z15 2 then x_ref13_Table_L0 z16 (IntKind.wrap i64 (v_i + 1)) z18 z19 z20 γ K else bif Ex.isRet z15 then K Ex.ret z16 v_i z18 z19 z20 else none else none else K (Ex.exit 0) v_ v_i w0 w1 w2
theorem e_ref13_Table_L0 (p : Par) (x_ref13_Table_L0 : Ty_ref13_Table_L0) (x_ref09_Name x_ref13_Table_L2 v_ v_i w0 w1 w2) (γ : Type) (K : Ex × Vars → Option γ) : roundK (cfg p) (T_ref13_Table_L0 x_ref09_Name x_ref13_Table_L2) (L_ref13_Table_L0 x_ref09_Name x_ref13_Table_L2) 15 0 [AVal.loc 1 0] ([dat (Dat.bool v_), dat (int i64 v_i), agg [(str w0, Own.none), (sl w1, Own.none), (sl w2, Own.none)]], []) γ (contL (fun v => P_ref13_Table_L0 x_ref13_Table_L0 noneL3 [AVal.loc 1 0] v γ K) K) = Sp.B_ref13_Table_L0 x_ref13_Table_L0 x_ref09_Name x_ref13_Table_L2 v_ v_i w0 w1 w2 γ (fun e x0 x1 x2 x3 x4 => K (e, ([dat (Dat.bool x0), dat (int i64 x1), agg [(str x2, Own.none), (sl x3, Own.none), (sl x4, Own.none)]], []))) := by kernel_rfl
def Sp.ref13_Table_L0 : Nat → Ty_ref13_Table_L0
  | 0 => fun _ _ _ _ _ _ _ => none
  | n + 1 => Sp.B_ref13_Table_L0 (Sp.ref13_Table_L0 n) Sp.ref09_Name (Sp.ref13_Table_L2 fuel)
theorem E0_ref13_Table_L0 (p : Par)   : ∀ n, EntOkL (cfg p) 15 0 (P_ref13_Table_L0 (Sp.ref13_Table_L0 n) noneL3) := entL_rounds (tab_loop (tab_call (tab_nil _) (E_ref09_Name p (ent_none _ _))) (E_ref13_Table_L2 p fuel (entL_none _ _ _))) (by kernel_rfl) (fun c v γ K => by unfold P_ref13_Table_L0; split <;> rfl) fun n c v γ K q h => by
  unfold P_ref13_Table_L0 at h
  split at h
  · exact (e_ref13_Table_L0 p _ _ _ _ _ _ _ _ _ _).trans h
  · cases h
theorem E_ref13_Table_L0 (p : Par)   (n : Nat) {F : Loop3} (hF : EntOkL (cfg p) 15 0 F) : EntOkL (cfg p) 15 0 (P_ref13_Table_L0 (Sp.ref13_Table_L0 n) F) := by
  intro c v γ K q h
  unfold P_ref13_Table_L0 at h
  split at h
  · exact E0_ref13_Table_L0 p n _ _ _ _ _ h
  · exact hF _ _ _ _ _ h
abbrev Ty_ref01_Check : Type 1 := Int → Int → ByteArray → (γ : Type) → (Bool → Option γ) → Option γ
def P_ref01_Check (X : Ty_ref01_Check) (F : Ent3) : Ent3 := fun a s γ K => match a, s with
  | [agg [(int i64 v_v0, Own.none), (int i64 v_v1, Own.none), (str v_v2, Own.none)]], [] => X v_v0 v_v1 v_v2 γ (fun r0 => K ([(dat (Dat.bool r0), Own.none)], []))
  | a, s => F a s γ K
def T_ref01_Check : CallK := noneK
def L_ref01_Check : LoopK := noneL
def Sp.B_ref01_Check (v_v0 v_v1 : Int) (v_v2 : ByteArray) (γ : Type) (K : Bool → Option γ) : Option γ := bif decide (v_v0 = 0) then bif decide (v_v1 = 0) then K (decide (v_v2 = bs [])) else K false else bif decide (v_v0 = 1) then bif decide (v_v1 = 0) then K (decide (v_v2 = bs [])) else bif decide (v_v1 = 1) then K (decide (v_v2 = bs [])) else K false else bif decide (v_v0 = 2) then bif decide (-9007199254740991 ≤ v_v1) then bif decide (v_v1 ≤ 9007199254740991) then K (decide (v_v2 = bs [])) else K false else K false else bif decide (v_v0 = 3) then bif decide (v_v1 = 0) then K (decide (Int.ofNat (ByteArray.size v_v2) ≤ 64)) else K false else K false
theorem e_ref01_Check (p : Par) (v_v0 v_v1 v_v2) (γ : Type) (K : List Ent × Sig → Option γ) : evFK (cfg p) (T_ref01_Check) (L_ref01_Check) 79 [agg [(int i64 v_v0, Own.none), (int i64 v_v1, Own.none), (str v_v2, Own.none)]] [] γ K = Sp.B_ref01_Check v_v0 v_v1 v_v2 γ (fun r0 => K ([(dat (Dat.bool r0), Own.none)], [])) := by kernel_rfl
def Sp.ref01_Check : Ty_ref01_Check := Sp.B_ref01_Check 
theorem E_ref01_Check (p : Par) {F : Ent3} (hF : EntOk (cfg p) 79 F) : EntOk (cfg p) 79 (P_ref01_Check Sp.ref01_Check F) := by
  intro a s γ K q h
  unfold P_ref01_Check at h
  split at h
  · exact body_ok (tab_nil _) rfl ((e_ref01_Check p _ _ _ _ _).trans h)
  · exact hF _ _ _ _ _ h
abbrev Ty_ref02_Check_L0 : Type 1 := List (List Dat) → Bool → Int → (γ : Type) → (Ex → Bool → Int → Option γ) → Option γ
def P_ref02_Check_L0 (X : Ty_ref02_Check_L0) (F : Loop3) : Loop3 := fun a s γ K => match a, s with
  | [dat (sl v_r)], ([dat (Dat.bool v_), dat (int i64 v_i)], []) => X v_r v_ v_i γ (fun e x0 x1 => K (e, ([dat (Dat.bool x0), dat (int i64 x1)], [])))
  | a, s => F a s γ K
def T_ref02_Check_L0 (x_ref01_Check : Ty_ref01_Check) : CallK := (addK noneK 79 (P_ref01_Check x_ref01_Check none3))
def L_ref02_Check_L0 (x_ref01_Check : Ty_ref01_Check) : LoopK := noneL
def Sp.B_ref02_Check_L0 (x_ref02_Check_L0 : Ty_ref02_Check_L0) (x_ref01_Check : Ty_ref01_Check) (v_r : List (List Dat)) (v_ : Bool) (v_i : Int) (γ : Type) (K : Ex → Bool → Int → Option γ) : Option γ := bif decide (v_i < Int.ofNat (List.length v_r)) then elemAt v_r v_i fun z5 => bif List.length z5 == 3 then cellAt z5 0 fun z6 => Aev.asInt i64 z6 fun z7 => cellAt z5 1 fun z8 => Aev.asInt i64 z8 fun z9 => cellAt z5 2 fun z10 => asStr z10 fun z11 => x_ref01_Check z7 z9 z11 γ fun z12 => bif !z12 then K Ex.ret false v_i else x_ref02_Check_L0 v_r v_ (IntKind.wrap i64 (v_i + 1)) γ K else none else K (Ex.exit 0) v_ v_i
theorem e_ref02_Check_L0 (p : Par) (x_ref02_Check_L0 : Ty_ref02_Check_L0) (x_ref01_Check v_r v_ v_i) (γ : Type) (K : Ex × Vars → Option γ) : roundK (cfg p) (T_ref02_Check_L0 x_ref01_Check) (L_ref02_Check_L0 x_ref01_Check) 52 0 [dat (sl v_r)] ([dat (Dat.bool v_), dat (int i64 v_i)], []) γ (contL (fun v => P_ref02_Check_L0 x_ref02_Check_L0 noneL3 [dat (sl v_r)] v γ K) K) = Sp.B_ref02_Check_L0 x_ref02_Check_L0 x_ref01_Check v_r v_ v_i γ (fun e x0 x1 => K (e, ([dat (Dat.bool x0), dat (int i64 x1)], []))) := by kernel_rfl
def Sp.ref02_Check_L0 : Nat → Ty_ref02_Check_L0
  | 0 => fun _ _ _ _ _ => none
  | n + 1 => Sp.B_ref02_Check_L0 (Sp.ref02_Check_L0 n) Sp.ref01_Check
theorem E0_ref02_Check_L0 (p : Par)   : ∀ n, EntOkL (cfg p) 52 0 (P_ref02_Check_L0 (Sp.ref02_Check_L0 n) noneL3) := entL_rounds (tab_call (tab_nil _) (E_ref01_Check p (ent_none _ _))) (by kernel_rfl) (fun c v γ K => by unfold P_ref02_Check_L0; split <;> rfl) fun n c v γ K q h => by
  unfold P_ref02_Check_L0 at h
  split at h
  · exact (e_ref02_Check_L0 p _ _ _ _ _ _ _).trans h
  · cases h
theorem E_ref02_Check_L0 (p : Par)   (n : Nat) {F : Loop3} (hF : EntOkL (cfg p) 52 0 F) : EntOkL (cfg p) 52 0 (P_ref02_Check_L0 (Sp.ref02_Check_L0 n) F) := by
  intro c v γ K q h
  unfold P_ref02_Check_L0 at h
  split at h
  · exact E0_ref02_Check_L0 p n _ _ _ _ _ h
  · exact hF _ _ _ _ _ h
abbrev Ty_ref02_Check : Type 1 := List (List Dat) → (γ : Type) → (Bool → Option γ) → Option γ
def P_ref02_Check (X : Ty_ref02_Check) (F : Ent3) : Ent3 := fun a s γ K => match a, s with
  | [dat (sl v_r)], [] => X v_r γ (fun r0 => K ([(dat (Dat.bool r0), Own.none)], []))
  | a, s => F a s γ K
def T_ref02_Check (x_ref02_Check_L0 : Ty_ref02_Check_L0) : CallK := noneK
def L_ref02_Check (x_ref02_Check_L0 : Ty_ref02_Check_L0) : LoopK := (addL noneL 52 0 (P_ref02_Check_L0 x_ref02_Check_L0 noneL3))
def Sp.B_ref02_Check (x_ref02_Check_L0 : Ty_ref02_Check_L0) (v_r : List (List Dat)) (γ : Type) (K : Bool → Option γ) : Option γ := x_ref02_Check_L0 v_r false 0 γ fun z3 z4 z5 => bif Ex.isExit z3 0 then K (decide (Int.ofNat (List.length v_r) ≤ 32)) else bif Ex.isRet z3 then K z4 else none
theorem e_ref02_Check (p : Par) (x_ref02_Check_L0 v_r) (γ : Type) (K : List Ent × Sig → Option γ) : evFK (cfg p) (T_ref02_Check x_ref02_Check_L0) (L_ref02_Check x_ref02_Check_L0) 52 [dat (sl v_r)] [] γ K = Sp.B_ref02_Check x_ref02_Check_L0 v_r γ (fun r0 => K ([(dat (Dat.bool r0), Own.none)], [])) := by kernel_rfl
def Sp.ref02_Check : Ty_ref02_Check := Sp.B_ref02_Check (Sp.ref02_Check_L0 fuel)
theorem E_ref02_Check (p : Par) {F : Ent3} (hF : EntOk (cfg p) 52 F) : EntOk (cfg p) 52 (P_ref02_Check Sp.ref02_Check F) := by
  intro a s γ K q h
  unfold P_ref02_Check at h
  split at h
  · exact body_ok (tab_loop (tab_nil _) (E_ref02_Check_L0 p fuel (entL_none _ _ _))) rfl ((e_ref02_Check p _ _ _ _).trans h)
  · exact hF _ _ _ _ _ h
abbrev Ty_ref13_Fits_L0 : Type 1 := List (List Dat) → List (List Dat) → Bool → Int → (γ : Type) → (Ex → Bool → Int → Option γ) → Option γ
def P_ref13_Fits_L0 (X : Ty_ref13_Fits_L0) (F : Loop3) : Loop3 := fun a s γ K => match a, s with
  | [dat (sl v_cols), dat (sl v_r)], ([dat (Dat.bool v_), dat (int i64 v_i)], []) => X v_cols v_r v_ v_i γ (fun e x0 x1 => K (e, ([dat (Dat.bool x0), dat (int i64 x1)], [])))
  | a, s => F a s γ K
def T_ref13_Fits_L0 : CallK := noneK
def L_ref13_Fits_L0 : LoopK := noneL
def Sp.B_ref13_Fits_L0 (x_ref13_Fits_L0 : Ty_ref13_Fits_L0)  (v_cols v_r : List (List Dat)) (v_ : Bool) (v_i : Int) (γ : Type) (K : Ex → Bool → Int → Option γ) : Option γ := bif decide (v_i < Int.ofNat (List.length v_r)) then elemAt v_r v_i fun z6 => bif List.length z6 == 3 then cellAt (List.drop 0 z6) 0 fun z7 => Aev.asInt i64 z7 fun z8 => bif !decide (z8 = 0) then elemAt v_r v_i fun z9 => bif List.length z9 == 3 then cellAt (List.drop 0 z9) 0 fun z10 => Aev.asInt i64 z10 fun z11 => elemAt v_cols v_i fun z12 => bif List.length z12 == 3 then cellAt (List.drop 2 z12) 0 fun z13 => Aev.asInt i64 z13 fun z14 => bif !decide (z11 = z14) then K Ex.ret false v_i else x_ref13_Fits_L0 v_cols v_r v_ (IntKind.wrap i64 (v_i + 1)) γ K else none else none else x_ref13_Fits_L0 v_cols v_r v_ (IntKind.wrap i64 (v_i + 1)) γ K else none else K (Ex.exit 0) v_ v_i
theorem e_ref13_Fits_L0 (p : Par) (x_ref13_Fits_L0 : Ty_ref13_Fits_L0) (v_cols v_r v_ v_i) (γ : Type) (K : Ex × Vars → Option γ) : roundK (cfg p) (T_ref13_Fits_L0) (L_ref13_Fits_L0) 23 0 [dat (sl v_cols), dat (sl v_r)] ([dat (Dat.bool v_), dat (int i64 v_i)], []) γ (contL (fun v => P_ref13_Fits_L0 x_ref13_Fits_L0 noneL3 [dat (sl v_cols), dat (sl v_r)] v γ K) K) = Sp.B_ref13_Fits_L0 x_ref13_Fits_L0 v_cols v_r v_ v_i γ (fun e x0 x1 => K (e, ([dat (Dat.bool x0), dat (int i64 x1)], []))) := by kernel_rfl
def Sp.ref13_Fits_L0 : Nat → Ty_ref13_Fits_L0
  | 0 => fun _ _ _ _ _ _ => none
  | n + 1 => Sp.B_ref13_Fits_L0 (Sp.ref13_Fits_L0 n) 
theorem E0_ref13_Fits_L0 (p : Par)   : ∀ n, EntOkL (cfg p) 23 0 (P_ref13_Fits_L0 (Sp.ref13_Fits_L0 n) noneL3) := entL_rounds (tab_nil _) (by kernel_rfl) (fun c v γ K => by unfold P_ref13_Fits_L0; split <;> rfl) fun n c v γ K q h => by
  unfold P_ref13_Fits_L0 at h
  split at h
  · exact (e_ref13_Fits_L0 p _ _ _ _ _ _ _).trans h
  · cases h
theorem E_ref13_Fits_L0 (p : Par)   (n : Nat) {F : Loop3} (hF : EntOkL (cfg p) 23 0 F) : EntOkL (cfg p) 23 0 (P_ref13_Fits_L0 (Sp.ref13_Fits_L0 n) F) := by
  intro c v γ K q h
  unfold P_ref13_Fits_L0 at h
  split at h
  · exact E0_ref13_Fits_L0 p n _ _ _ _ _ h
  · exact hF _ _ _ _ _ h
abbrev Ty_ref13_Fits : Type 1 := List (List Dat) → List (List Dat) → (γ : Type) → (Bool → Option γ) → Option γ
def P_ref13_Fits (X : Ty_ref13_Fits) (F : Ent3) : Ent3 := fun a s γ K => match a, s with
  | [dat (sl v_cols), dat (sl v_r)], [] => X v_cols v_r γ (fun r0 => K ([(dat (Dat.bool r0), Own.none)], []))
  | a, s => F a s γ K
def T_ref13_Fits (x_ref02_Check : Ty_ref02_Check) (x_ref13_Fits_L0 : Ty_ref13_Fits_L0) : CallK := (addK noneK 52 (P_ref02_Check x_ref02_Check none3))
def L_ref13_Fits (x_ref02_Check : Ty_ref02_Check) (x_ref13_Fits_L0 : Ty_ref13_Fits_L0) : LoopK := (addL noneL 23 0 (P_ref13_Fits_L0 x_ref13_Fits_L0 noneL3))
def Sp.B_ref13_Fits (x_ref02_Check : Ty_ref02_Check) (x_ref13_Fits_L0 : Ty_ref13_Fits_L0) (v_cols v_r : List (List Dat)) (γ : Type) (K : Bool → Option γ) : Option γ := bif !decide (Int.ofNat (List.length v_r) = Int.ofNat (List.length v_cols)) then K false else x_ref02_Check v_r γ fun z4 => bif !z4 then K false else x_ref13_Fits_L0 v_cols v_r false 0 γ fun z5 z6 z7 => bif Ex.isExit z5 0 then K true else bif Ex.isRet z5 then K z6 else none
theorem e_ref13_Fits (p : Par) (x_ref02_Check x_ref13_Fits_L0 v_cols v_r) (γ : Type) (K : List Ent × Sig → Option γ) : evFK (cfg p) (T_ref13_Fits x_ref02_Check x_ref13_Fits_L0) (L_ref13_Fits x_ref02_Check x_ref13_Fits_L0) 23 [dat (sl v_cols), dat (sl v_r)] [] γ K = Sp.B_ref13_Fits x_ref02_Check x_ref13_Fits_L0 v_cols v_r γ (fun r0 => K ([(dat (Dat.bool r0), Own.none)], [])) := by kernel_rfl
def Sp.ref13_Fits : Ty_ref13_Fits := Sp.B_ref13_Fits Sp.ref02_Check (Sp.ref13_Fits_L0 fuel)
theorem E_ref13_Fits (p : Par) {F : Ent3} (hF : EntOk (cfg p) 23 F) : EntOk (cfg p) 23 (P_ref13_Fits Sp.ref13_Fits F) := by
  intro a s γ K q h
  unfold P_ref13_Fits at h
  split at h
  · exact body_ok (tab_loop (tab_call (tab_nil _) (E_ref02_Check p (ent_none _ _))) (E_ref13_Fits_L0 p fuel (entL_none _ _ _))) rfl ((e_ref13_Fits p _ _ _ _ _ _).trans h)
  · exact hF _ _ _ _ _ h
abbrev Ty_ref02_Put_L3 : Type 1 := List (List Dat) → Int → Int → List (List Dat) → Int → (γ : Type) → (Ex → List (List Dat) → Int → Option γ) → Option γ
def P_ref02_Put_L3 (X : Ty_ref02_Put_L3) (F : Loop3) : Loop3 := fun a s γ K => match a, s with
  | [dat (sl v_r), dat (int i64 v_i), dat (int i64 v_n)], ([dat (sl v_out), dat (int i64 v_k)], []) => X v_r v_i v_n v_out v_k γ (fun e x0 x1 => K (e, ([dat (sl x0), dat (int i64 x1)], [])))
  | a, s => F a s γ K
def T_ref02_Put_L3 : CallK := noneK
def L_ref02_Put_L3 : LoopK := noneL
def Sp.B_ref02_Put_L3 (x_ref02_Put_L3 : Ty_ref02_Put_L3)  (v_r : List (List Dat)) (v_i v_n : Int) (v_out : List (List Dat)) (v_k : Int) (γ : Type) (K : Ex → List (List Dat) → Int → Option γ) : Option γ := bif sized v_out 1 then bif decide (0 ≤ v_k) then bif decide (0 ≤ IntKind.wrap i64 (8 * v_k)) then bif sized v_out 1 && true && true && decide ((List.length v_out + 1) * 2 ≤ 70368744177664) && true then x_ref02_Put_L3 v_r v_i v_n (v_out ++ [[Dat.int IntKind.u8 (IntKind.wrap IntKind.u8 (Int.fdiv v_n (2 ^ min (Int.toNat (IntKind.wrap i64 (8 * v_k))) 64)))]]) (IntKind.wrap i64 (v_k - 1)) γ K else none else none else K (Ex.exit 3) v_out v_k else none
theorem e_ref02_Put_L3 (p : Par) (x_ref02_Put_L3 : Ty_ref02_Put_L3) (v_r v_i v_n v_out v_k) (γ : Type) (K : Ex × Vars → Option γ) : roundK (cfg p) (T_ref02_Put_L3) (L_ref02_Put_L3) 71 3 [dat (sl v_r), dat (int i64 v_i), dat (int i64 v_n)] ([dat (sl v_out), dat (int i64 v_k)], []) γ (contL (fun v => P_ref02_Put_L3 x_ref02_Put_L3 noneL3 [dat (sl v_r), dat (int i64 v_i), dat (int i64 v_n)] v γ K) K) = Sp.B_ref02_Put_L3 x_ref02_Put_L3 v_r v_i v_n v_out v_k γ (fun e x0 x1 => K (e, ([dat (sl x0), dat (int i64 x1)], []))) := by kernel_rfl
def Sp.ref02_Put_L3 : Nat → Ty_ref02_Put_L3
  | 0 => fun _ _ _ _ _ _ _ => none
  | n + 1 => Sp.B_ref02_Put_L3 (Sp.ref02_Put_L3 n) 
theorem E0_ref02_Put_L3 (p : Par)   : ∀ n, EntOkL (cfg p) 71 3 (P_ref02_Put_L3 (Sp.ref02_Put_L3 n) noneL3) := entL_rounds (tab_nil _) (by kernel_rfl) (fun c v γ K => by unfold P_ref02_Put_L3; split <;> rfl) fun n c v γ K q h => by
  unfold P_ref02_Put_L3 at h
  split at h
  · exact (e_ref02_Put_L3 p _ _ _ _ _ _ _ _).trans h
  · cases h
theorem E_ref02_Put_L3 (p : Par)   (n : Nat) {F : Loop3} (hF : EntOkL (cfg p) 71 3 F) : EntOkL (cfg p) 71 3 (P_ref02_Put_L3 (Sp.ref02_Put_L3 n) F) := by
  intro c v γ K q h
  unfold P_ref02_Put_L3 at h
  split at h
  · exact E0_ref02_Put_L3 p n _ _ _ _ _ h
  · exact hF _ _ _ _ _ h
abbrev Ty_ref02_Put_L0 : Type 1 := List (List Dat) → List (List Dat) → Int → (γ : Type) → (Ex → List (List Dat) → Int → Option γ) → Option γ
def P_ref02_Put_L0 (X : Ty_ref02_Put_L0) (F : Loop3) : Loop3 := fun a s γ K => match a, s with
  | [dat (sl v_r)], ([dat (sl v_out), dat (int i64 v_i)], []) => X v_r v_out v_i γ (fun e x0 x1 => K (e, ([dat (sl x0), dat (int i64 x1)], [])))
  | a, s => F a s γ K
def T_ref02_Put_L0 (x_ref02_Put_L3 : Ty_ref02_Put_L3) : CallK := noneK
def L_ref02_Put_L0 (x_ref02_Put_L3 : Ty_ref02_Put_L3) : LoopK := (addL noneL 71 3 (P_ref02_Put_L3 x_ref02_Put_L3 noneL3))
def Sp.B_ref02_Put_L0 (x_ref02_Put_L0 : Ty_ref02_Put_L0) (x_ref02_Put_L3 : Ty_ref02_Put_L3) (v_r v_out : List (List Dat)) (v_i : Int) (γ : Type) (K : Ex → List (List Dat) → Int → Option γ) : Option γ := bif sized v_out 1 then bif decide (v_i < Int.ofNat (List.length v_r)) then elemAt v_r v_i fun z5 => bif List.length z5 == 3 then cellAt z5 0 fun z6 => Aev.asInt i64 z6 fun z7 => cellAt z5 1 fun z8 => Aev.asInt i64 z8 fun z9 => cellAt z5 2 fun z10 => asStr z10 fun z11 => bif sized v_out 1 && true && true && decide ((List.length v_out + 1) * 2 ≤ 70368744177664) && true then bif decide (z7 = 1) then bif sized (v_out ++ [[Dat.int IntKind.u8 (IntKind.wrap IntKind.u8 z7)]]) 1 && true && true && decide ((List.length (v_out ++ [[Dat.int IntKind.u8 (IntKind.wrap IntKind.u8 z7)]]) + 1) * 2 ≤ 70368744177664) && true then x_ref02_Put_L0 v_r (v_out ++ [[Dat.int IntKind.u8 (IntKind.wrap IntKind.u8 z7)]] ++ [[Dat.int IntKind.u8 (IntKind.wrap IntKind.u8 z9)]]) (IntKind.wrap i64 (v_i + 1)) γ K else none else bif decide (z7 = 2) then x_ref02_Put_L3 v_r v_i (IntKind.wrap i64 (z9 + 9007199254740992)) (v_out ++ [[Dat.int IntKind.u8 (IntKind.wrap IntKind.u8 z7)]]) 6 γ fun z12 z13 z14 => bif sized z13 1 then bif Ex.isExit z12 3 then x_ref02_Put_L0 v_r z13 (IntKind.wrap i64 (v_i + 1)) γ K else bif Ex.isRet z12 then K Ex.ret z13 v_i else none else none else bif decide (z7 = 3) then bif sized (v_out ++ [[Dat.int IntKind.u8 (IntKind.wrap IntKind.u8 z7)]]) 1 && true && true && decide ((List.length (v_out ++ [[Dat.int IntKind.u8 (IntKind.wrap IntKind.u8 z7)]]) + 1) * 2 ≤ 70368744177664) && true then bif sized (v_out ++ [[Dat.int IntKind.u8 (IntKind.wrap IntKind.u8 z7)]] ++ [[Dat.int IntKind.u8 (IntKind.wrap IntKind.u8 (Int.ofNat (ByteArray.size z11)))]]) 1 && sized (bytesEs z11) 1 && true && decide ((List.length (v_out ++ [[Dat.int IntKind.u8 (IntKind.wrap IntKind.u8 z7)]] ++ [[Dat.int IntKind.u8 (IntKind.wrap IntKind.u8 (Int.ofNat (ByteArray.size z11)))]]) + List.length (bytesEs z11)) * 2 ≤ 70368744177664) && true then x_ref02_Put_L0 v_r (v_out ++ [[Dat.int IntKind.u8 (IntKind.wrap IntKind.u8 z7)]] ++ [[Dat.int IntKind.u8 (IntKind.wrap IntKind.u8 (Int.ofNat (ByteArray.size z11)))]] ++ bytesEs z11) (IntKind.wrap i64 (v_i + 1)) γ K else none else none else x_ref02_Put_L0 v_r (v_out ++ [[Dat.int IntKind.u8 (IntKind.wrap IntKind.u8 z7)]]) (IntKind.wrap i64 (v_i + 1)) γ K else none else none else K (Ex.exit 0) v_out v_i else none
theorem e_ref02_Put_L0 (p : Par) (x_ref02_Put_L0 : Ty_ref02_Put_L0) (x_ref02_Put_L3 v_r v_out v_i) (γ : Type) (K : Ex × Vars → Option γ) : roundK (cfg p) (T_ref02_Put_L0 x_ref02_Put_L3) (L_ref02_Put_L0 x_ref02_Put_L3) 71 0 [dat (sl v_r)] ([dat (sl v_out), dat (int i64 v_i)], []) γ (contL (fun v => P_ref02_Put_L0 x_ref02_Put_L0 noneL3 [dat (sl v_r)] v γ K) K) = Sp.B_ref02_Put_L0 x_ref02_Put_L0 x_ref02_Put_L3 v_r v_out v_i γ (fun e x0 x1 => K (e, ([dat (sl x0), dat (int i64 x1)], []))) := by kernel_rfl
def Sp.ref02_Put_L0 : Nat → Ty_ref02_Put_L0
  | 0 => fun _ _ _ _ _ => none
  | n + 1 => Sp.B_ref02_Put_L0 (Sp.ref02_Put_L0 n) (Sp.ref02_Put_L3 fuel)
theorem E0_ref02_Put_L0 (p : Par)   : ∀ n, EntOkL (cfg p) 71 0 (P_ref02_Put_L0 (Sp.ref02_Put_L0 n) noneL3) := entL_rounds (tab_loop (tab_nil _) (E_ref02_Put_L3 p fuel (entL_none _ _ _))) (by kernel_rfl) (fun c v γ K => by unfold P_ref02_Put_L0; split <;> rfl) fun n c v γ K q h => by
  unfold P_ref02_Put_L0 at h
  split at h
  · exact (e_ref02_Put_L0 p _ _ _ _ _ _ _).trans h
  · cases h
theorem E_ref02_Put_L0 (p : Par)   (n : Nat) {F : Loop3} (hF : EntOkL (cfg p) 71 0 F) : EntOkL (cfg p) 71 0 (P_ref02_Put_L0 (Sp.ref02_Put_L0 n) F) := by
  intro c v γ K q h
  unfold P_ref02_Put_L0 at h
  split at h
  · exact E0_ref02_Put_L0 p n _ _ _ _ _ h
  · exact hF _ _ _ _ _ h
abbrev Ty_ref02_Put : Type 1 := List (List Dat) → (γ : Type) → (List (List Dat) → Option γ) → Option γ
def P_ref02_Put (X : Ty_ref02_Put) (F : Ent3) : Ent3 := fun a s γ K => match a, s with
  | [dat (sl v_r)], [] => X v_r γ (fun r0 => K ([(dat (sl r0), Own.none)], []))
  | a, s => F a s γ K
def T_ref02_Put (x_ref02_Put_L0 : Ty_ref02_Put_L0) : CallK := noneK
def L_ref02_Put (x_ref02_Put_L0 : Ty_ref02_Put_L0) : LoopK := (addL noneL 71 0 (P_ref02_Put_L0 x_ref02_Put_L0 noneL3))
def Sp.B_ref02_Put (x_ref02_Put_L0 : Ty_ref02_Put_L0) (v_r : List (List Dat)) (γ : Type) (K : List (List Dat) → Option γ) : Option γ := x_ref02_Put_L0 v_r [[Dat.int IntKind.u8 (IntKind.wrap IntKind.u8 (Int.ofNat (List.length v_r)))]] 0 γ fun z3 z4 z5 => bif sized z4 1 then bif Ex.isExit z3 0 then K z4 else bif Ex.isRet z3 then none else none else none
theorem e_ref02_Put (p : Par) (x_ref02_Put_L0 v_r) (γ : Type) (K : List Ent × Sig → Option γ) : evFK (cfg p) (T_ref02_Put x_ref02_Put_L0) (L_ref02_Put x_ref02_Put_L0) 71 [dat (sl v_r)] [] γ K = Sp.B_ref02_Put x_ref02_Put_L0 v_r γ (fun r0 => K ([(dat (sl r0), Own.none)], [])) := by kernel_rfl
def Sp.ref02_Put : Ty_ref02_Put := Sp.B_ref02_Put (Sp.ref02_Put_L0 fuel)
theorem E_ref02_Put (p : Par) {F : Ent3} (hF : EntOk (cfg p) 71 F) : EntOk (cfg p) 71 (P_ref02_Put Sp.ref02_Put F) := by
  intro a s γ K q h
  unfold P_ref02_Put at h
  split at h
  · exact body_ok (tab_loop (tab_nil _) (E_ref02_Put_L0 p fuel (entL_none _ _ _))) rfl ((e_ref02_Put p _ _ _ _).trans h)
  · exact hF _ _ _ _ _ h
abbrev Ty_ref04_May : Type 1 := List (List Dat) → (γ : Type) → (Int → Option γ) → Option γ
def P_ref04_May (X : Ty_ref04_May) (F : Ent3) : Ent3 := fun a s γ K => match a, s with
  | [dat (sl v_r)], [] => X v_r γ (fun r0 => K ([(dat (int i64 r0), Own.none)], []))
  | a, s => F a s γ K
def T_ref04_May (x_ref02_Check : Ty_ref02_Check) (x_ref02_Put : Ty_ref02_Put) : CallK := (addK (addK noneK 52 (P_ref02_Check x_ref02_Check none3)) 71 (P_ref02_Put x_ref02_Put none3))
def L_ref04_May (x_ref02_Check : Ty_ref02_Check) (x_ref02_Put : Ty_ref02_Put) : LoopK := noneL
def Sp.B_ref04_May (x_ref02_Check : Ty_ref02_Check) (x_ref02_Put : Ty_ref02_Put) (v_r : List (List Dat)) (γ : Type) (K : Int → Option γ) : Option γ := x_ref02_Check v_r γ fun z3 => bif !z3 then K 20 else x_ref02_Put v_r γ fun z4 => bif decide (253 < Int.ofNat (List.length z4)) then K 3 else K 0
theorem e_ref04_May (p : Par) (x_ref02_Check x_ref02_Put v_r) (γ : Type) (K : List Ent × Sig → Option γ) : evFK (cfg p) (T_ref04_May x_ref02_Check x_ref02_Put) (L_ref04_May x_ref02_Check x_ref02_Put) 45 [dat (sl v_r)] [] γ K = Sp.B_ref04_May x_ref02_Check x_ref02_Put v_r γ (fun r0 => K ([(dat (int i64 r0), Own.none)], [])) := by kernel_rfl
def Sp.ref04_May : Ty_ref04_May := Sp.B_ref04_May Sp.ref02_Check Sp.ref02_Put
theorem E_ref04_May (p : Par) {F : Ent3} (hF : EntOk (cfg p) 45 F) : EntOk (cfg p) 45 (P_ref04_May Sp.ref04_May F) := by
  intro a s γ K q h
  unfold P_ref04_May at h
  split at h
  · exact body_ok (tab_call (tab_call (tab_nil _) (E_ref02_Check p (ent_none _ _))) (E_ref02_Put p (ent_none _ _))) rfl ((e_ref04_May p _ _ _ _ _).trans h)
  · exact hF _ _ _ _ _ h
abbrev Ty_ref13_Table_L4 : Type 1 := Bool → Int → ByteArray → List (List Dat) → List (List Dat) → (γ : Type) → (Ex → Bool → Int → ByteArray → List (List Dat) → List (List Dat) → Option γ) → Option γ
def P_ref13_Table_L4 (X : Ty_ref13_Table_L4) (F : Loop3) : Loop3 := fun a s γ K => match a, s with
  | [AVal.loc 1 0], ([dat (Dat.bool v_), dat (int i64 v_i), agg [(str w0, Own.none), (sl w1, Own.none), (sl w2, Own.none)]], []) => X v_ v_i w0 w1 w2 γ (fun e x0 x1 x2 x3 x4 => K (e, ([dat (Dat.bool x0), dat (int i64 x1), agg [(str x2, Own.none), (sl x3, Own.none), (sl x4, Own.none)]], [])))
  | a, s => F a s γ K
def T_ref13_Table_L4 (x_ref13_Fits : Ty_ref13_Fits) (x_ref04_May : Ty_ref04_May) : CallK := (addK (addK noneK 23 (P_ref13_Fits x_ref13_Fits none3)) 45 (P_ref04_May x_ref04_May none3))
def L_ref13_Table_L4 (x_ref13_Fits : Ty_ref13_Fits) (x_ref04_May : Ty_ref04_May) : LoopK := noneL
def Sp.B_ref13_Table_L4 (x_ref13_Table_L4 : Ty_ref13_Table_L4) (x_ref13_Fits : Ty_ref13_Fits) (x_ref04_May : Ty_ref04_May) (v_ : Bool) (v_i : Int) (w0 : ByteArray) (w1 w2 : List (List Dat)) (γ : Type) (K : Ex → Bool → Int → ByteArray → List (List Dat) → List (List Dat) → Option γ) : Option γ := bif decide (v_i < Int.ofNat (List.length w2)) then elemAt w2 v_i fun z7 => bif List.length z7 == 1 then cellAt z7 0 fun z8 => asSl z8 fun z9 => x_ref13_Fits w1 z9 γ fun z10 => bif !z10 then K Ex.ret false v_i w0 w1 w2 else elemAt w2 v_i fun z11 => bif List.length z11 == 1 then cellAt z11 0 fun z12 => asSl z12 fun z13 => x_ref04_May z13 γ fun z14 => bif !decide (z14 = 0) then K Ex.ret false v_i w0 w1 w2 else x_ref13_Table_L4 v_ (IntKind.wrap i64 (v_i + 1)) w0 w1 w2 γ K else none else none else K (Ex.exit 4) v_ v_i w0 w1 w2
theorem e_ref13_Table_L4 (p : Par) (x_ref13_Table_L4 : Ty_ref13_Table_L4) (x_ref13_Fits x_ref04_May v_ v_i w0 w1 w2) (γ : Type) (K : Ex × Vars → Option γ) : roundK (cfg p) (T_ref13_Table_L4 x_ref13_Fits x_ref04_May) (L_ref13_Table_L4 x_ref13_Fits x_ref04_May) 15 4 [AVal.loc 1 0] ([dat (Dat.bool v_), dat (int i64 v_i), agg [(str w0, Own.none), (sl w1, Own.none), (sl w2, Own.none)]], []) γ (contL (fun v => P_ref13_Table_L4 x_ref13_Table_L4 noneL3 [AVal.loc 1 0] v γ K) K) = Sp.B_ref13_Table_L4 x_ref13_Table_L4 x_ref13_Fits x_ref04_May v_ v_i w0 w1 w2 γ (fun e x0 x1 x2 x3 x4 => K (e, ([dat (Dat.bool x0), dat (int i64 x1), agg [(str x2, Own.none), (sl x3, Own.none), (sl x4, Own.none)]], []))) := by kernel_rfl
def Sp.ref13_Table_L4 : Nat → Ty_ref13_Table_L4
  | 0 => fun _ _ _ _ _ _ _ => none
  | n + 1 => Sp.B_ref13_Table_L4 (Sp.ref13_Table_L4 n) Sp.ref13_Fits Sp.ref04_May
theorem E0_ref13_Table_L4 (p : Par)   : ∀ n, EntOkL (cfg p) 15 4 (P_ref13_Table_L4 (Sp.ref13_Table_L4 n) noneL3) := entL_rounds (tab_call (tab_call (tab_nil _) (E_ref13_Fits p (ent_none _ _))) (E_ref04_May p (ent_none _ _))) (by kernel_rfl) (fun c v γ K => by unfold P_ref13_Table_L4; split <;> rfl) fun n c v γ K q h => by
  unfold P_ref13_Table_L4 at h
  split at h
  · exact (e_ref13_Table_L4 p _ _ _ _ _ _ _ _ _ _).trans h
  · cases h
theorem E_ref13_Table_L4 (p : Par)   (n : Nat) {F : Loop3} (hF : EntOkL (cfg p) 15 4 F) : EntOkL (cfg p) 15 4 (P_ref13_Table_L4 (Sp.ref13_Table_L4 n) F) := by
  intro c v γ K q h
  unfold P_ref13_Table_L4 at h
  split at h
  · exact E0_ref13_Table_L4 p n _ _ _ _ _ h
  · exact hF _ _ _ _ _ h
abbrev Ty_ref13_Table : Type 1 := ByteArray → List (List Dat) → List (List Dat) → (γ : Type) → (Bool → Option γ) → Option γ
def P_ref13_Table (X : Ty_ref13_Table) (F : Ent3) : Ent3 := fun a s γ K => match a, s with
  | [agg [(str v_t0, Own.none), (sl v_t1, Own.none), (sl v_t2, Own.none)]], [] => X v_t0 v_t1 v_t2 γ (fun r0 => K ([(dat (Dat.bool r0), Own.none)], []))
  | a, s => F a s γ K
def T_ref13_Table (x_ref09_Name : Ty_ref09_Name) (x_ref13_Table_L0 : Ty_ref13_Table_L0) (x_ref13_Table_L4 : Ty_ref13_Table_L4) : CallK := (addK noneK 44 (P_ref09_Name x_ref09_Name none3))
def L_ref13_Table (x_ref09_Name : Ty_ref09_Name) (x_ref13_Table_L0 : Ty_ref13_Table_L0) (x_ref13_Table_L4 : Ty_ref13_Table_L4) : LoopK := (addL (addL noneL 15 0 (P_ref13_Table_L0 x_ref13_Table_L0 noneL3)) 15 4 (P_ref13_Table_L4 x_ref13_Table_L4 noneL3))
def Sp.B_ref13_Table (x_ref09_Name : Ty_ref09_Name) (x_ref13_Table_L0 : Ty_ref13_Table_L0) (x_ref13_Table_L4 : Ty_ref13_Table_L4) (v_t0 : ByteArray) (v_t1 v_t2 : List (List Dat)) (γ : Type) (K : Bool → Option γ) : Option γ := x_ref09_Name v_t0 γ fun z5 => bif !z5 then K false else bif decide (Int.ofNat (List.length v_t1) < 1) then K false else bif decide (16 < Int.ofNat (List.length v_t1)) then K false else bif decide (4096 < Int.ofNat (List.length v_t2)) then K false else x_ref13_Table_L0 false 0 v_t0 v_t1 v_t2 γ fun z6 z7 z8 z9 z10 z11 => bif Ex.isExit z6 0 then x_ref13_Table_L4 z7 0 z9 z10 z11 γ fun z12 z13 z14 z15 z16 z17 => bif Ex.isExit z12 4 then K true else bif Ex.isRet z12 then K z13 else none else bif Ex.isRet z6 then K z7 else none
theorem e_ref13_Table (p : Par) (x_ref09_Name x_ref13_Table_L0 x_ref13_Table_L4 v_t0 v_t1 v_t2) (γ : Type) (K : List Ent × Sig → Option γ) : evFK (cfg p) (T_ref13_Table x_ref09_Name x_ref13_Table_L0 x_ref13_Table_L4) (L_ref13_Table x_ref09_Name x_ref13_Table_L0 x_ref13_Table_L4) 15 [agg [(str v_t0, Own.none), (sl v_t1, Own.none), (sl v_t2, Own.none)]] [] γ K = Sp.B_ref13_Table x_ref09_Name x_ref13_Table_L0 x_ref13_Table_L4 v_t0 v_t1 v_t2 γ (fun r0 => K ([(dat (Dat.bool r0), Own.none)], [])) := by kernel_rfl
def Sp.ref13_Table : Ty_ref13_Table := Sp.B_ref13_Table Sp.ref09_Name (Sp.ref13_Table_L0 fuel) (Sp.ref13_Table_L4 fuel)
theorem E_ref13_Table (p : Par) {F : Ent3} (hF : EntOk (cfg p) 15 F) : EntOk (cfg p) 15 (P_ref13_Table Sp.ref13_Table F) := by
  intro a s γ K q h
  unfold P_ref13_Table at h
  split at h
  · exact body_ok (tab_loop (tab_loop (tab_call (tab_nil _) (E_ref09_Name p (ent_none _ _))) (E_ref13_Table_L0 p fuel (entL_none _ _ _))) (E_ref13_Table_L4 p fuel (entL_none _ _ _))) rfl ((e_ref13_Table p _ _ _ _ _ _ _ _).trans h)
  · exact hF _ _ _ _ _ h
abbrev Ty_ref13_Check_L2 : Type 1 := List (List Dat) → Int → Bool → Int → (γ : Type) → (Ex → Bool → Int → Option γ) → Option γ
def P_ref13_Check_L2 (X : Ty_ref13_Check_L2) (F : Loop3) : Loop3 := fun a s γ K => match a, s with
  | [dat (sl v_c), dat (int i64 v_i)], ([dat (Dat.bool v_), dat (int i64 v_k)], []) => X v_c v_i v_ v_k γ (fun e x0 x1 => K (e, ([dat (Dat.bool x0), dat (int i64 x1)], [])))
  | a, s => F a s γ K
def T_ref13_Check_L2 : CallK := noneK
def L_ref13_Check_L2 : LoopK := noneL
def Sp.B_ref13_Check_L2 (x_ref13_Check_L2 : Ty_ref13_Check_L2)  (v_c : List (List Dat)) (v_i : Int) (v_ : Bool) (v_k : Int) (γ : Type) (K : Ex → Bool → Int → Option γ) : Option γ := bif decide (v_k < v_i) then elemAt v_c v_k fun z6 => bif List.length z6 == 3 then cellAt (List.drop 0 z6) 0 fun z7 => asStr z7 fun z8 => elemAt v_c v_i fun z9 => bif List.length z9 == 3 then cellAt (List.drop 0 z9) 0 fun z10 => asStr z10 fun z11 => bif decide (z8 = z11) then K Ex.ret false v_k else x_ref13_Check_L2 v_c v_i v_ (IntKind.wrap i64 (v_k + 1)) γ K else none else none else K (Ex.exit 2) v_ v_k
theorem e_ref13_Check_L2 (p : Par) (x_ref13_Check_L2 : Ty_ref13_Check_L2) (v_c v_i v_ v_k) (γ : Type) (K : Ex × Vars → Option γ) : roundK (cfg p) (T_ref13_Check_L2) (L_ref13_Check_L2) 10 2 [dat (sl v_c), dat (int i64 v_i)] ([dat (Dat.bool v_), dat (int i64 v_k)], []) γ (contL (fun v => P_ref13_Check_L2 x_ref13_Check_L2 noneL3 [dat (sl v_c), dat (int i64 v_i)] v γ K) K) = Sp.B_ref13_Check_L2 x_ref13_Check_L2 v_c v_i v_ v_k γ (fun e x0 x1 => K (e, ([dat (Dat.bool x0), dat (int i64 x1)], []))) := by kernel_rfl
def Sp.ref13_Check_L2 : Nat → Ty_ref13_Check_L2
  | 0 => fun _ _ _ _ _ _ => none
  | n + 1 => Sp.B_ref13_Check_L2 (Sp.ref13_Check_L2 n) 
theorem E0_ref13_Check_L2 (p : Par)   : ∀ n, EntOkL (cfg p) 10 2 (P_ref13_Check_L2 (Sp.ref13_Check_L2 n) noneL3) := entL_rounds (tab_nil _) (by kernel_rfl) (fun c v γ K => by unfold P_ref13_Check_L2; split <;> rfl) fun n c v γ K q h => by
  unfold P_ref13_Check_L2 at h
  split at h
  · exact (e_ref13_Check_L2 p _ _ _ _ _ _ _).trans h
  · cases h
theorem E_ref13_Check_L2 (p : Par)   (n : Nat) {F : Loop3} (hF : EntOkL (cfg p) 10 2 F) : EntOkL (cfg p) 10 2 (P_ref13_Check_L2 (Sp.ref13_Check_L2 n) F) := by
  intro c v γ K q h
  unfold P_ref13_Check_L2 at h
  split at h
  · exact E0_ref13_Check_L2 p n _ _ _ _ _ h
  · exact hF _ _ _ _ _ h
abbrev Ty_ref13_Check_L0 : Type 1 := List (List Dat) → Bool → Int → (γ : Type) → (Ex → Bool → Int → Option γ) → Option γ
def P_ref13_Check_L0 (X : Ty_ref13_Check_L0) (F : Loop3) : Loop3 := fun a s γ K => match a, s with
  | [dat (sl v_c)], ([dat (Dat.bool v_), dat (int i64 v_i)], []) => X v_c v_ v_i γ (fun e x0 x1 => K (e, ([dat (Dat.bool x0), dat (int i64 x1)], [])))
  | a, s => F a s γ K
def T_ref13_Check_L0 (x_ref13_Table : Ty_ref13_Table) (x_ref13_Check_L2 : Ty_ref13_Check_L2) : CallK := (addK noneK 15 (P_ref13_Table x_ref13_Table none3))
def L_ref13_Check_L0 (x_ref13_Table : Ty_ref13_Table) (x_ref13_Check_L2 : Ty_ref13_Check_L2) : LoopK := (addL noneL 10 2 (P_ref13_Check_L2 x_ref13_Check_L2 noneL3))
def Sp.B_ref13_Check_L0 (x_ref13_Check_L0 : Ty_ref13_Check_L0) (x_ref13_Table : Ty_ref13_Table) (x_ref13_Check_L2 : Ty_ref13_Check_L2) (v_c : List (List Dat)) (v_ : Bool) (v_i : Int) (γ : Type) (K : Ex → Bool → Int → Option γ) : Option γ := bif decide (v_i < Int.ofNat (List.length v_c)) then elemAt v_c v_i fun z5 => bif List.length z5 == 3 then cellAt z5 0 fun z6 => asStr z6 fun z7 => cellAt z5 1 fun z8 => asSl z8 fun z9 => cellAt z5 2 fun z10 => asSl z10 fun z11 => x_ref13_Table z7 z9 z11 γ fun z12 => bif !z12 then K Ex.ret false v_i else x_ref13_Check_L2 v_c v_i v_ 0 γ fun z13 z14 z15 => bif Ex.isExit z13 2 then x_ref13_Check_L0 v_c z14 (IntKind.wrap i64 (v_i + 1)) γ K else bif Ex.isRet z13 then K Ex.ret z14 v_i else none else none else K (Ex.exit 0) v_ v_i
theorem e_ref13_Check_L0 (p : Par) (x_ref13_Check_L0 : Ty_ref13_Check_L0) (x_ref13_Table x_ref13_Check_L2 v_c v_ v_i) (γ : Type) (K : Ex × Vars → Option γ) : roundK (cfg p) (T_ref13_Check_L0 x_ref13_Table x_ref13_Check_L2) (L_ref13_Check_L0 x_ref13_Table x_ref13_Check_L2) 10 0 [dat (sl v_c)] ([dat (Dat.bool v_), dat (int i64 v_i)], []) γ (contL (fun v => P_ref13_Check_L0 x_ref13_Check_L0 noneL3 [dat (sl v_c)] v γ K) K) = Sp.B_ref13_Check_L0 x_ref13_Check_L0 x_ref13_Table x_ref13_Check_L2 v_c v_ v_i γ (fun e x0 x1 => K (e, ([dat (Dat.bool x0), dat (int i64 x1)], []))) := by kernel_rfl
def Sp.ref13_Check_L0 : Nat → Ty_ref13_Check_L0
  | 0 => fun _ _ _ _ _ => none
  | n + 1 => Sp.B_ref13_Check_L0 (Sp.ref13_Check_L0 n) Sp.ref13_Table (Sp.ref13_Check_L2 fuel)
theorem E0_ref13_Check_L0 (p : Par)   : ∀ n, EntOkL (cfg p) 10 0 (P_ref13_Check_L0 (Sp.ref13_Check_L0 n) noneL3) := entL_rounds (tab_loop (tab_call (tab_nil _) (E_ref13_Table p (ent_none _ _))) (E_ref13_Check_L2 p fuel (entL_none _ _ _))) (by kernel_rfl) (fun c v γ K => by unfold P_ref13_Check_L0; split <;> rfl) fun n c v γ K q h => by
  unfold P_ref13_Check_L0 at h
  split at h
  · exact (e_ref13_Check_L0 p _ _ _ _ _ _ _ _).trans h
  · cases h
theorem E_ref13_Check_L0 (p : Par)   (n : Nat) {F : Loop3} (hF : EntOkL (cfg p) 10 0 F) : EntOkL (cfg p) 10 0 (P_ref13_Check_L0 (Sp.ref13_Check_L0 n) F) := by
  intro c v γ K q h
  unfold P_ref13_Check_L0 at h
  split at h
  · exact E0_ref13_Check_L0 p n _ _ _ _ _ h
  · exact hF _ _ _ _ _ h
abbrev Ty_ref13_Check : Type 1 := List (List Dat) → (γ : Type) → (Bool → Option γ) → Option γ
def P_ref13_Check (X : Ty_ref13_Check) (F : Ent3) : Ent3 := fun a s γ K => match a, s with
  | [dat (sl v_c)], [] => X v_c γ (fun r0 => K ([(dat (Dat.bool r0), Own.none)], []))
  | a, s => F a s γ K
def T_ref13_Check (x_ref13_Check_L0 : Ty_ref13_Check_L0) : CallK := noneK
def L_ref13_Check (x_ref13_Check_L0 : Ty_ref13_Check_L0) : LoopK := (addL noneL 10 0 (P_ref13_Check_L0 x_ref13_Check_L0 noneL3))
def Sp.B_ref13_Check (x_ref13_Check_L0 : Ty_ref13_Check_L0) (v_c : List (List Dat)) (γ : Type) (K : Bool → Option γ) : Option γ := x_ref13_Check_L0 v_c false 0 γ fun z3 z4 z5 => bif Ex.isExit z3 0 then K (decide (Int.ofNat (List.length v_c) ≤ 16)) else bif Ex.isRet z3 then K z4 else none
theorem e_ref13_Check (p : Par) (x_ref13_Check_L0 v_c) (γ : Type) (K : List Ent × Sig → Option γ) : evFK (cfg p) (T_ref13_Check x_ref13_Check_L0) (L_ref13_Check x_ref13_Check_L0) 10 [dat (sl v_c)] [] γ K = Sp.B_ref13_Check x_ref13_Check_L0 v_c γ (fun r0 => K ([(dat (Dat.bool r0), Own.none)], [])) := by kernel_rfl
def Sp.ref13_Check : Ty_ref13_Check := Sp.B_ref13_Check (Sp.ref13_Check_L0 fuel)
theorem E_ref13_Check (p : Par) {F : Ent3} (hF : EntOk (cfg p) 10 F) : EntOk (cfg p) 10 (P_ref13_Check Sp.ref13_Check F) := by
  intro a s γ K q h
  unfold P_ref13_Check at h
  split at h
  · exact body_ok (tab_loop (tab_nil _) (E_ref13_Check_L0 p fuel (entL_none _ _ _))) rfl ((e_ref13_Check p _ _ _ _).trans h)
  · exact hF _ _ _ _ _ h
abbrev Ty_ref13_Find_L0 : Type 1 := List (List Dat) → ByteArray → Int → Int → (γ : Type) → (Ex → Int → Int → Option γ) → Option γ
def P_ref13_Find_L0 (X : Ty_ref13_Find_L0) (F : Loop3) : Loop3 := fun a s γ K => match a, s with
  | [dat (sl v_c), dat (str v_name)], ([dat (int i64 v_), dat (int i64 v_i)], []) => X v_c v_name v_ v_i γ (fun e x0 x1 => K (e, ([dat (int i64 x0), dat (int i64 x1)], [])))
  | a, s => F a s γ K
def T_ref13_Find_L0 : CallK := noneK
def L_ref13_Find_L0 : LoopK := noneL
def Sp.B_ref13_Find_L0 (x_ref13_Find_L0 : Ty_ref13_Find_L0)  (v_c : List (List Dat)) (v_name : ByteArray) (v_ v_i : Int) (γ : Type) (K : Ex → Int → Int → Option γ) : Option γ := bif decide (v_i < Int.ofNat (List.length v_c)) then elemAt v_c v_i fun z6 => bif List.length z6 == 3 then cellAt (List.drop 0 z6) 0 fun z7 => asStr z7 fun z8 => bif decide (z8 = v_name) then K Ex.ret v_i v_i else x_ref13_Find_L0 v_c v_name v_ (IntKind.wrap i64 (v_i + 1)) γ K else none else K (Ex.exit 0) v_ v_i
theorem e_ref13_Find_L0 (p : Par) (x_ref13_Find_L0 : Ty_ref13_Find_L0) (v_c v_name v_ v_i) (γ : Type) (K : Ex × Vars → Option γ) : roundK (cfg p) (T_ref13_Find_L0) (L_ref13_Find_L0) 12 0 [dat (sl v_c), dat (str v_name)] ([dat (int i64 v_), dat (int i64 v_i)], []) γ (contL (fun v => P_ref13_Find_L0 x_ref13_Find_L0 noneL3 [dat (sl v_c), dat (str v_name)] v γ K) K) = Sp.B_ref13_Find_L0 x_ref13_Find_L0 v_c v_name v_ v_i γ (fun e x0 x1 => K (e, ([dat (int i64 x0), dat (int i64 x1)], []))) := by kernel_rfl
def Sp.ref13_Find_L0 : Nat → Ty_ref13_Find_L0
  | 0 => fun _ _ _ _ _ _ => none
  | n + 1 => Sp.B_ref13_Find_L0 (Sp.ref13_Find_L0 n) 
theorem E0_ref13_Find_L0 (p : Par)   : ∀ n, EntOkL (cfg p) 12 0 (P_ref13_Find_L0 (Sp.ref13_Find_L0 n) noneL3) := entL_rounds (tab_nil _) (by kernel_rfl) (fun c v γ K => by unfold P_ref13_Find_L0; split <;> rfl) fun n c v γ K q h => by
  unfold P_ref13_Find_L0 at h
  split at h
  · exact (e_ref13_Find_L0 p _ _ _ _ _ _ _).trans h
  · cases h
theorem E_ref13_Find_L0 (p : Par)   (n : Nat) {F : Loop3} (hF : EntOkL (cfg p) 12 0 F) : EntOkL (cfg p) 12 0 (P_ref13_Find_L0 (Sp.ref13_Find_L0 n) F) := by
  intro c v γ K q h
  unfold P_ref13_Find_L0 at h
  split at h
  · exact E0_ref13_Find_L0 p n _ _ _ _ _ h
  · exact hF _ _ _ _ _ h
abbrev Ty_ref13_Find : Type 1 := List (List Dat) → ByteArray → (γ : Type) → (Int → Option γ) → Option γ
def P_ref13_Find (X : Ty_ref13_Find) (F : Ent3) : Ent3 := fun a s γ K => match a, s with
  | [dat (sl v_c), dat (str v_name)], [] => X v_c v_name γ (fun r0 => K ([(dat (int i64 r0), Own.none)], []))
  | a, s => F a s γ K
def T_ref13_Find (x_ref13_Find_L0 : Ty_ref13_Find_L0) : CallK := noneK
def L_ref13_Find (x_ref13_Find_L0 : Ty_ref13_Find_L0) : LoopK := (addL noneL 12 0 (P_ref13_Find_L0 x_ref13_Find_L0 noneL3))
def Sp.B_ref13_Find (x_ref13_Find_L0 : Ty_ref13_Find_L0) (v_c : List (List Dat)) (v_name : ByteArray) (γ : Type) (K : Int → Option γ) : Option γ := x_ref13_Find_L0 v_c v_name 0 0 γ fun z4 z5 z6 => bif Ex.isExit z4 0 then K (-1) else bif Ex.isRet z4 then K z5 else none
theorem e_ref13_Find (p : Par) (x_ref13_Find_L0 v_c v_name) (γ : Type) (K : List Ent × Sig → Option γ) : evFK (cfg p) (T_ref13_Find x_ref13_Find_L0) (L_ref13_Find x_ref13_Find_L0) 12 [dat (sl v_c), dat (str v_name)] [] γ K = Sp.B_ref13_Find x_ref13_Find_L0 v_c v_name γ (fun r0 => K ([(dat (int i64 r0), Own.none)], [])) := by kernel_rfl
def Sp.ref13_Find : Ty_ref13_Find := Sp.B_ref13_Find (Sp.ref13_Find_L0 fuel)
theorem E_ref13_Find (p : Par) {F : Ent3} (hF : EntOk (cfg p) 12 F) : EntOk (cfg p) 12 (P_ref13_Find Sp.ref13_Find F) := by
  intro a s γ K q h
  unfold P_ref13_Find at h
  split at h
  · exact body_ok (tab_loop (tab_nil _) (E_ref13_Find_L0 p fuel (entL_none _ _ _))) rfl ((e_ref13_Find p _ _ _ _ _).trans h)
  · exact hF _ _ _ _ _ h
abbrev Ty_law13_CatalogChecks_L0 : Type 1 := List (List Dat) → Bool → Int → Bool → Int → ByteArray → List (List Dat) → List (List Dat) → (γ : Type) → (Ex → Bool → Int → ByteArray → List (List Dat) → List (List Dat) → Option γ) → Option γ
def P_law13_CatalogChecks_L0 (X : Ty_law13_CatalogChecks_L0) (F : Loop3) : Loop3 := fun a s γ K => match a, s with
  | [dat (sl v_c), AVal.loc 6 0, dat (Dat.bool v_is), dat (int i64 v_k)], ([dat (Dat.bool v_), dat (int i64 v_i), agg [(str w0, Own.none), (sl w1, Own.none), (sl w2, Own.none)]], []) => X v_c v_is v_k v_ v_i w0 w1 w2 γ (fun e x0 x1 x2 x3 x4 => K (e, ([dat (Dat.bool x0), dat (int i64 x1), agg [(str x2, Own.none), (sl x3, Own.none), (sl x4, Own.none)]], [])))
  | a, s => F a s γ K
def T_law13_CatalogChecks_L0 (x_catalog_Table : Ty_catalog_Table) (x_ref13_Table : Ty_ref13_Table) : CallK := (addK (addK noneK 14 (P_catalog_Table x_catalog_Table none3)) 15 (P_ref13_Table x_ref13_Table none3))
def L_law13_CatalogChecks_L0 (x_catalog_Table : Ty_catalog_Table) (x_ref13_Table : Ty_ref13_Table) : LoopK := noneL
def Sp.B_law13_CatalogChecks_L0 (x_law13_CatalogChecks_L0 : Ty_law13_CatalogChecks_L0) (x_catalog_Table : Ty_catalog_Table) (x_ref13_Table : Ty_ref13_Table) (v_c : List (List Dat)) (v_is : Bool) (v_k : Int) (v_ : Bool) (v_i : Int) (w0 : ByteArray) (w1 w2 : List (List Dat)) (γ : Type) (K : Ex → Bool → Int → ByteArray → List (List Dat) → List (List Dat) → Option γ) : Option γ := bif decide (v_i < Int.ofNat (List.length v_c)) then elemAt v_c v_i fun z10 => bif List.length z10 == 3 then cellAt z10 0 fun z11 => asStr z11 fun z12 => cellAt z10 1 fun z13 => asSl z13 fun z14 => cellAt z10 2 fun z15 => asSl z15 fun z16 => x_catalog_Table z12 z14 z16 γ fun z17 => elemAt v_c v_i fun z18 => bif List.length z18 == 3 then cellAt z18 0 fun z19 => asStr z19 fun z20 => cellAt z18 1 fun z21 => asSl z21 fun z22 => cellAt z18 2 fun z23 => asSl z23 fun z24 => x_ref13_Table z20 z22 z24 γ fun z25 => bif !decide (z17 = 0) == z25 then K Ex.ret false v_i w0 w1 w2 else x_law13_CatalogChecks_L0 v_c v_is v_k v_ (IntKind.wrap i64 (v_i + 1)) w0 w1 w2 γ K else none else none else K (Ex.exit 0) v_ v_i w0 w1 w2
theorem e_law13_CatalogChecks_L0 (p : Par) (x_law13_CatalogChecks_L0 : Ty_law13_CatalogChecks_L0) (x_catalog_Table x_ref13_Table v_c v_is v_k v_ v_i w0 w1 w2) (γ : Type) (K : Ex × Vars → Option γ) : roundK (cfg p) (T_law13_CatalogChecks_L0 x_catalog_Table x_ref13_Table) (L_law13_CatalogChecks_L0 x_catalog_Table x_ref13_Table) 3 0 [dat (sl v_c), AVal.loc 6 0, dat (Dat.bool v_is), dat (int i64 v_k)] ([dat (Dat.bool v_), dat (int i64 v_i), agg [(str w0, Own.none), (sl w1, Own.none), (sl w2, Own.none)]], []) γ (contL (fun v => P_law13_CatalogChecks_L0 x_law13_CatalogChecks_L0 noneL3 [dat (sl v_c), AVal.loc 6 0, dat (Dat.bool v_is), dat (int i64 v_k)] v γ K) K) = Sp.B_law13_CatalogChecks_L0 x_law13_CatalogChecks_L0 x_catalog_Table x_ref13_Table v_c v_is v_k v_ v_i w0 w1 w2 γ (fun e x0 x1 x2 x3 x4 => K (e, ([dat (Dat.bool x0), dat (int i64 x1), agg [(str x2, Own.none), (sl x3, Own.none), (sl x4, Own.none)]], []))) := by kernel_rfl
def Sp.law13_CatalogChecks_L0 : Nat → Ty_law13_CatalogChecks_L0
  | 0 => fun _ _ _ _ _ _ _ _ _ _ => none
  | n + 1 => Sp.B_law13_CatalogChecks_L0 (Sp.law13_CatalogChecks_L0 n) Sp.catalog_Table Sp.ref13_Table
theorem E0_law13_CatalogChecks_L0 (p : Par)   : ∀ n, EntOkL (cfg p) 3 0 (P_law13_CatalogChecks_L0 (Sp.law13_CatalogChecks_L0 n) noneL3) := entL_rounds (tab_call (tab_call (tab_nil _) (E_catalog_Table p (ent_none _ _))) (E_ref13_Table p (ent_none _ _))) (by kernel_rfl) (fun c v γ K => by unfold P_law13_CatalogChecks_L0; split <;> rfl) fun n c v γ K q h => by
  unfold P_law13_CatalogChecks_L0 at h
  split at h
  · exact (e_law13_CatalogChecks_L0 p _ _ _ _ _ _ _ _ _ _ _ _ _).trans h
  · cases h
theorem E_law13_CatalogChecks_L0 (p : Par)   (n : Nat) {F : Loop3} (hF : EntOkL (cfg p) 3 0 F) : EntOkL (cfg p) 3 0 (P_law13_CatalogChecks_L0 (Sp.law13_CatalogChecks_L0 n) F) := by
  intro c v γ K q h
  unfold P_law13_CatalogChecks_L0 at h
  split at h
  · exact E0_law13_CatalogChecks_L0 p n _ _ _ _ _ h
  · exact hF _ _ _ _ _ h
abbrev Ty_ref13_SameColumns_L0 : Type 1 := List (List Dat) → List (List Dat) → Bool → Int → (γ : Type) → (Ex → Bool → Int → Option γ) → Option γ
def P_ref13_SameColumns_L0 (X : Ty_ref13_SameColumns_L0) (F : Loop3) : Loop3 := fun a s γ K => match a, s with
  | [dat (sl v_a), dat (sl v_b)], ([dat (Dat.bool v_), dat (int i64 v_i)], []) => X v_a v_b v_ v_i γ (fun e x0 x1 => K (e, ([dat (Dat.bool x0), dat (int i64 x1)], [])))
  | a, s => F a s γ K
def T_ref13_SameColumns_L0 : CallK := noneK
def L_ref13_SameColumns_L0 : LoopK := noneL
def Sp.B_ref13_SameColumns_L0 (x_ref13_SameColumns_L0 : Ty_ref13_SameColumns_L0)  (v_a v_b : List (List Dat)) (v_ : Bool) (v_i : Int) (γ : Type) (K : Ex → Bool → Int → Option γ) : Option γ := bif decide (v_i < Int.ofNat (List.length v_a)) then elemAt v_a v_i fun z6 => bif List.length z6 == 3 then cellAt z6 0 fun z7 => asStr z7 fun z8 => cellAt z6 1 fun z9 => asStr z9 fun z10 => cellAt z6 2 fun z11 => Aev.asInt i64 z11 fun z12 => elemAt v_b v_i fun z13 => bif List.length z13 == 3 then cellAt z13 0 fun z14 => asStr z14 fun z15 => cellAt z13 1 fun z16 => asStr z16 fun z17 => cellAt z13 2 fun z18 => Aev.asInt i64 z18 fun z19 => bif !(decide (z8 = z15) && (decide (z10 = z17) && (decide (z12 = z19) && true))) then K Ex.ret false v_i else x_ref13_SameColumns_L0 v_a v_b v_ (IntKind.wrap i64 (v_i + 1)) γ K else none else none else K (Ex.exit 0) v_ v_i
theorem e_ref13_SameColumns_L0 (p : Par) (x_ref13_SameColumns_L0 : Ty_ref13_SameColumns_L0) (v_a v_b v_ v_i) (γ : Type) (K : Ex × Vars → Option γ) : roundK (cfg p) (T_ref13_SameColumns_L0) (L_ref13_SameColumns_L0) 17 0 [dat (sl v_a), dat (sl v_b)] ([dat (Dat.bool v_), dat (int i64 v_i)], []) γ (contL (fun v => P_ref13_SameColumns_L0 x_ref13_SameColumns_L0 noneL3 [dat (sl v_a), dat (sl v_b)] v γ K) K) = Sp.B_ref13_SameColumns_L0 x_ref13_SameColumns_L0 v_a v_b v_ v_i γ (fun e x0 x1 => K (e, ([dat (Dat.bool x0), dat (int i64 x1)], []))) := by kernel_rfl
def Sp.ref13_SameColumns_L0 : Nat → Ty_ref13_SameColumns_L0
  | 0 => fun _ _ _ _ _ _ => none
  | n + 1 => Sp.B_ref13_SameColumns_L0 (Sp.ref13_SameColumns_L0 n) 
theorem E0_ref13_SameColumns_L0 (p : Par)   : ∀ n, EntOkL (cfg p) 17 0 (P_ref13_SameColumns_L0 (Sp.ref13_SameColumns_L0 n) noneL3) := entL_rounds (tab_nil _) (by kernel_rfl) (fun c v γ K => by unfold P_ref13_SameColumns_L0; split <;> rfl) fun n c v γ K q h => by
  unfold P_ref13_SameColumns_L0 at h
  split at h
  · exact (e_ref13_SameColumns_L0 p _ _ _ _ _ _ _).trans h
  · cases h
theorem E_ref13_SameColumns_L0 (p : Par)   (n : Nat) {F : Loop3} (hF : EntOkL (cfg p) 17 0 F) : EntOkL (cfg p) 17 0 (P_ref13_SameColumns_L0 (Sp.ref13_SameColumns_L0 n) F) := by
  intro c v γ K q h
  unfold P_ref13_SameColumns_L0 at h
  split at h
  · exact E0_ref13_SameColumns_L0 p n _ _ _ _ _ h
  · exact hF _ _ _ _ _ h
abbrev Ty_ref13_SameColumns : Type 1 := List (List Dat) → List (List Dat) → (γ : Type) → (Bool → Option γ) → Option γ
def P_ref13_SameColumns (X : Ty_ref13_SameColumns) (F : Ent3) : Ent3 := fun a s γ K => match a, s with
  | [dat (sl v_a), dat (sl v_b)], [] => X v_a v_b γ (fun r0 => K ([(dat (Dat.bool r0), Own.none)], []))
  | a, s => F a s γ K
def T_ref13_SameColumns (x_ref13_SameColumns_L0 : Ty_ref13_SameColumns_L0) : CallK := noneK
def L_ref13_SameColumns (x_ref13_SameColumns_L0 : Ty_ref13_SameColumns_L0) : LoopK := (addL noneL 17 0 (P_ref13_SameColumns_L0 x_ref13_SameColumns_L0 noneL3))
def Sp.B_ref13_SameColumns (x_ref13_SameColumns_L0 : Ty_ref13_SameColumns_L0) (v_a v_b : List (List Dat)) (γ : Type) (K : Bool → Option γ) : Option γ := bif !decide (Int.ofNat (List.length v_a) = Int.ofNat (List.length v_b)) then K false else x_ref13_SameColumns_L0 v_a v_b false 0 γ fun z4 z5 z6 => bif Ex.isExit z4 0 then K true else bif Ex.isRet z4 then K z5 else none
theorem e_ref13_SameColumns (p : Par) (x_ref13_SameColumns_L0 v_a v_b) (γ : Type) (K : List Ent × Sig → Option γ) : evFK (cfg p) (T_ref13_SameColumns x_ref13_SameColumns_L0) (L_ref13_SameColumns x_ref13_SameColumns_L0) 17 [dat (sl v_a), dat (sl v_b)] [] γ K = Sp.B_ref13_SameColumns x_ref13_SameColumns_L0 v_a v_b γ (fun r0 => K ([(dat (Dat.bool r0), Own.none)], [])) := by kernel_rfl
def Sp.ref13_SameColumns : Ty_ref13_SameColumns := Sp.B_ref13_SameColumns (Sp.ref13_SameColumns_L0 fuel)
theorem E_ref13_SameColumns (p : Par) {F : Ent3} (hF : EntOk (cfg p) 17 F) : EntOk (cfg p) 17 (P_ref13_SameColumns Sp.ref13_SameColumns F) := by
  intro a s γ K q h
  unfold P_ref13_SameColumns at h
  split at h
  · exact body_ok (tab_loop (tab_nil _) (E_ref13_SameColumns_L0 p fuel (entL_none _ _ _))) rfl ((e_ref13_SameColumns p _ _ _ _ _).trans h)
  · exact hF _ _ _ _ _ h
abbrev Ty_ref01_Compare : Type 1 := Int → Int → ByteArray → Int → Int → ByteArray → (γ : Type) → (Int → Option γ) → Option γ
def P_ref01_Compare (X : Ty_ref01_Compare) (F : Ent3) : Ent3 := fun a s γ K => match a, s with
  | [agg [(int i64 v_a0, Own.none), (int i64 v_a1, Own.none), (str v_a2, Own.none)], agg [(int i64 v_b0, Own.none), (int i64 v_b1, Own.none), (str v_b2, Own.none)]], [] => X v_a0 v_a1 v_a2 v_b0 v_b1 v_b2 γ (fun r0 => K ([(dat (int i64 r0), Own.none)], []))
  | a, s => F a s γ K
def T_ref01_Compare : CallK := noneK
def L_ref01_Compare : LoopK := noneL
def Sp.B_ref01_Compare (v_a0 v_a1 : Int) (v_a2 : ByteArray) (v_b0 v_b1 : Int) (v_b2 : ByteArray) (γ : Type) (K : Int → Option γ) : Option γ := bif decide (v_a0 < v_b0) then K (-1) else bif decide (v_a0 = v_b0) then bif decide (v_a1 < v_b1) then K (-1) else bif decide (v_a1 = v_b1) then bif Op.bytesLess (ByteArray.data v_a2).1 (ByteArray.data v_b2).1 then K (-1) else bif decide (v_a0 = v_b0) && (decide (v_a1 = v_b1) && (decide (v_a2 = v_b2) && true)) then K 0 else K 1 else bif decide (v_a0 = v_b0) && (decide (v_a1 = v_b1) && (decide (v_a2 = v_b2) && true)) then K 0 else K 1 else bif decide (v_a0 = v_b0) && (decide (v_a1 = v_b1) && (decide (v_a2 = v_b2) && true)) then K 0 else K 1
theorem e_ref01_Compare (p : Par) (v_a0 v_a1 v_a2 v_b0 v_b1 v_b2) (γ : Type) (K : List Ent × Sig → Option γ) : evFK (cfg p) (T_ref01_Compare) (L_ref01_Compare) 92 [agg [(int i64 v_a0, Own.none), (int i64 v_a1, Own.none), (str v_a2, Own.none)], agg [(int i64 v_b0, Own.none), (int i64 v_b1, Own.none), (str v_b2, Own.none)]] [] γ K = Sp.B_ref01_Compare v_a0 v_a1 v_a2 v_b0 v_b1 v_b2 γ (fun r0 => K ([(dat (int i64 r0), Own.none)], [])) := by kernel_rfl
def Sp.ref01_Compare : Ty_ref01_Compare := Sp.B_ref01_Compare 
theorem E_ref01_Compare (p : Par) {F : Ent3} (hF : EntOk (cfg p) 92 F) : EntOk (cfg p) 92 (P_ref01_Compare Sp.ref01_Compare F) := by
  intro a s γ K q h
  unfold P_ref01_Compare at h
  split at h
  · exact body_ok (tab_nil _) rfl ((e_ref01_Compare p _ _ _ _ _ _ _ _).trans h)
  · exact hF _ _ _ _ _ h
abbrev Ty_ref02_Compare_L0 : Type 1 := List (List Dat) → List (List Dat) → Int → Int → (γ : Type) → (Ex → Int → Int → Option γ) → Option γ
def P_ref02_Compare_L0 (X : Ty_ref02_Compare_L0) (F : Loop3) : Loop3 := fun a s γ K => match a, s with
  | [dat (sl v_a), dat (sl v_b)], ([dat (int i64 v_), dat (int i64 v_i)], []) => X v_a v_b v_ v_i γ (fun e x0 x1 => K (e, ([dat (int i64 x0), dat (int i64 x1)], [])))
  | a, s => F a s γ K
def T_ref02_Compare_L0 (x_ref01_Compare : Ty_ref01_Compare) : CallK := (addK noneK 92 (P_ref01_Compare x_ref01_Compare none3))
def L_ref02_Compare_L0 (x_ref01_Compare : Ty_ref01_Compare) : LoopK := noneL
def Sp.B_ref02_Compare_L0 (x_ref02_Compare_L0 : Ty_ref02_Compare_L0) (x_ref01_Compare : Ty_ref01_Compare) (v_a v_b : List (List Dat)) (v_ v_i : Int) (γ : Type) (K : Ex → Int → Int → Option γ) : Option γ := bif decide (v_i < Int.ofNat (List.length v_a)) then bif decide (v_i < Int.ofNat (List.length v_b)) then elemAt v_a v_i fun z6 => bif List.length z6 == 3 then cellAt z6 0 fun z7 => Aev.asInt i64 z7 fun z8 => cellAt z6 1 fun z9 => Aev.asInt i64 z9 fun z10 => cellAt z6 2 fun z11 => asStr z11 fun z12 => elemAt v_b v_i fun z13 => bif List.length z13 == 3 then cellAt z13 0 fun z14 => Aev.asInt i64 z14 fun z15 => cellAt z13 1 fun z16 => Aev.asInt i64 z16 fun z17 => cellAt z13 2 fun z18 => asStr z18 fun z19 => x_ref01_Compare z8 z10 z12 z15 z17 z19 γ fun z20 => bif !decide (z20 = 0) then K Ex.ret z20 v_i else x_ref02_Compare_L0 v_a v_b v_ (IntKind.wrap i64 (v_i + 1)) γ K else none else none else K (Ex.exit 0) v_ v_i else K (Ex.exit 0) v_ v_i
theorem e_ref02_Compare_L0 (p : Par) (x_ref02_Compare_L0 : Ty_ref02_Compare_L0) (x_ref01_Compare v_a v_b v_ v_i) (γ : Type) (K : Ex × Vars → Option γ) : roundK (cfg p) (T_ref02_Compare_L0 x_ref01_Compare) (L_ref02_Compare_L0 x_ref01_Compare) 72 0 [dat (sl v_a), dat (sl v_b)] ([dat (int i64 v_), dat (int i64 v_i)], []) γ (contL (fun v => P_ref02_Compare_L0 x_ref02_Compare_L0 noneL3 [dat (sl v_a), dat (sl v_b)] v γ K) K) = Sp.B_ref02_Compare_L0 x_ref02_Compare_L0 x_ref01_Compare v_a v_b v_ v_i γ (fun e x0 x1 => K (e, ([dat (int i64 x0), dat (int i64 x1)], []))) := by kernel_rfl
def Sp.ref02_Compare_L0 : Nat → Ty_ref02_Compare_L0
  | 0 => fun _ _ _ _ _ _ => none
  | n + 1 => Sp.B_ref02_Compare_L0 (Sp.ref02_Compare_L0 n) Sp.ref01_Compare
theorem E0_ref02_Compare_L0 (p : Par)   : ∀ n, EntOkL (cfg p) 72 0 (P_ref02_Compare_L0 (Sp.ref02_Compare_L0 n) noneL3) := entL_rounds (tab_call (tab_nil _) (E_ref01_Compare p (ent_none _ _))) (by kernel_rfl) (fun c v γ K => by unfold P_ref02_Compare_L0; split <;> rfl) fun n c v γ K q h => by
  unfold P_ref02_Compare_L0 at h
  split at h
  · exact (e_ref02_Compare_L0 p _ _ _ _ _ _ _ _).trans h
  · cases h
theorem E_ref02_Compare_L0 (p : Par)   (n : Nat) {F : Loop3} (hF : EntOkL (cfg p) 72 0 F) : EntOkL (cfg p) 72 0 (P_ref02_Compare_L0 (Sp.ref02_Compare_L0 n) F) := by
  intro c v γ K q h
  unfold P_ref02_Compare_L0 at h
  split at h
  · exact E0_ref02_Compare_L0 p n _ _ _ _ _ h
  · exact hF _ _ _ _ _ h
abbrev Ty_ref02_Compare : Type 1 := List (List Dat) → List (List Dat) → (γ : Type) → (Int → Option γ) → Option γ
def P_ref02_Compare (X : Ty_ref02_Compare) (F : Ent3) : Ent3 := fun a s γ K => match a, s with
  | [dat (sl v_a), dat (sl v_b)], [] => X v_a v_b γ (fun r0 => K ([(dat (int i64 r0), Own.none)], []))
  | a, s => F a s γ K
def T_ref02_Compare (x_ref02_Compare_L0 : Ty_ref02_Compare_L0) : CallK := noneK
def L_ref02_Compare (x_ref02_Compare_L0 : Ty_ref02_Compare_L0) : LoopK := (addL noneL 72 0 (P_ref02_Compare_L0 x_ref02_Compare_L0 noneL3))
def Sp.B_ref02_Compare (x_ref02_Compare_L0 : Ty_ref02_Compare_L0) (v_a v_b : List (List Dat)) (γ : Type) (K : Int → Option γ) : Option γ := x_ref02_Compare_L0 v_a v_b 0 0 γ fun z4 z5 z6 => bif Ex.isExit z4 0 then bif decide (Int.ofNat (List.length v_a) < Int.ofNat (List.length v_b)) then K (-1) else bif decide (Int.ofNat (List.length v_b) < Int.ofNat (List.length v_a)) then K 1 else K 0 else bif Ex.isRet z4 then K z5 else none
theorem e_ref02_Compare (p : Par) (x_ref02_Compare_L0 v_a v_b) (γ : Type) (K : List Ent × Sig → Option γ) : evFK (cfg p) (T_ref02_Compare x_ref02_Compare_L0) (L_ref02_Compare x_ref02_Compare_L0) 72 [dat (sl v_a), dat (sl v_b)] [] γ K = Sp.B_ref02_Compare x_ref02_Compare_L0 v_a v_b γ (fun r0 => K ([(dat (int i64 r0), Own.none)], [])) := by kernel_rfl
def Sp.ref02_Compare : Ty_ref02_Compare := Sp.B_ref02_Compare (Sp.ref02_Compare_L0 fuel)
theorem E_ref02_Compare (p : Par) {F : Ent3} (hF : EntOk (cfg p) 72 F) : EntOk (cfg p) 72 (P_ref02_Compare Sp.ref02_Compare F) := by
  intro a s γ K q h
  unfold P_ref02_Compare at h
  split at h
  · exact body_ok (tab_loop (tab_nil _) (E_ref02_Compare_L0 p fuel (entL_none _ _ _))) rfl ((e_ref02_Compare p _ _ _ _ _).trans h)
  · exact hF _ _ _ _ _ h
abbrev Ty_ref02_Sort_L0 : Type 1 := List (List Dat) → List (List Dat) → List (List Dat) → (γ : Type) → (Ex → List (List Dat) → List (List Dat) → List (List Dat) → Option γ) → Option γ
def P_ref02_Sort_L0 (X : Ty_ref02_Sort_L0) (F : Loop3) : Loop3 := fun a s γ K => match a, s with
  | [], ([dat (sl v_a), dat (sl v_b), dat (sl v_out)], []) => X v_a v_b v_out γ (fun e x0 x1 x2 => K (e, ([dat (sl x0), dat (sl x1), dat (sl x2)], [])))
  | a, s => F a s γ K
def T_ref02_Sort_L0 (x_ref02_Compare : Ty_ref02_Compare) : CallK := (addK noneK 72 (P_ref02_Compare x_ref02_Compare none3))
def L_ref02_Sort_L0 (x_ref02_Compare : Ty_ref02_Compare) : LoopK := noneL
def Sp.B_ref02_Sort_L0 (x_ref02_Sort_L0 : Ty_ref02_Sort_L0) (x_ref02_Compare : Ty_ref02_Compare) (v_a v_b v_out : List (List Dat)) (γ : Type) (K : Ex → List (List Dat) → List (List Dat) → List (List Dat) → Option γ) : Option γ := bif sized v_out 1 then bif decide (0 < Int.ofNat (List.length v_a)) then bif decide (Int.ofNat (List.length v_b) = 0) then elemAt v_a 0 fun z5 => bif List.length z5 == 1 then cellAt z5 0 fun z6 => asSl z6 fun z7 => bif sized v_out 1 && true && true && decide ((List.length v_out + 1) * 25 ≤ 70368744177664) && true then bif decide (1 ≤ Int.ofNat (List.length v_a)) && decide (Int.ofNat (List.length v_a) ≤ Int.ofNat (List.length v_a)) && true && sized v_a 1 then x_ref02_Sort_L0 (List.drop 1 (List.take (Int.toNat (Int.ofNat (List.length v_a))) v_a)) v_b (v_out ++ [[sl z7]]) γ K else none else none else none else bif decide (0 < Int.ofNat (List.length v_a)) then elemAt v_a 0 fun z8 => bif List.length z8 == 1 then cellAt z8 0 fun z9 => asSl z9 fun z10 => elemAt v_b 0 fun z11 => bif List.length z11 == 1 then cellAt z11 0 fun z12 => asSl z12 fun z13 => x_ref02_Compare z10 z13 γ fun z14 => bif decide (z14 ≤ 0) then elemAt v_a 0 fun z15 => bif List.length z15 == 1 then cellAt z15 0 fun z16 => asSl z16 fun z17 => bif sized v_out 1 && true && true && decide ((List.length v_out + 1) * 25 ≤ 70368744177664) && true then bif decide (1 ≤ Int.ofNat (List.length v_a)) && decide (Int.ofNat (List.length v_a) ≤ Int.ofNat (List.length v_a)) && true && sized v_a 1 then x_ref02_Sort_L0 (List.drop 1 (List.take (Int.toNat (Int.ofNat (List.length v_a))) v_a)) v_b (v_out ++ [[sl z17]]) γ K else none else none else none else elemAt v_b 0 fun z18 => bif List.length z18 == 1 then cellAt z18 0 fun z19 => asSl z19 fun z20 => bif sized v_out 1 && true && true && decide ((List.length v_out + 1) * 25 ≤ 70368744177664) && true then bif decide (1 ≤ Int.ofNat (List.length v_b)) && decide (Int.ofNat (List.length v_b) ≤ Int.ofNat (List.length v_b)) && true && sized v_b 1 then x_ref02_Sort_L0 v_a (List.drop 1 (List.take (Int.toNat (Int.ofNat (List.length v_b))) v_b)) (v_out ++ [[sl z20]]) γ K else none else none else none else none else none else elemAt v_b 0 fun z21 => bif List.length z21 == 1 then cellAt z21 0 fun z22 => asSl z22 fun z23 => bif sized v_out 1 && true && true && decide ((List.length v_out + 1) * 25 ≤ 70368744177664) && true then bif decide (1 ≤ Int.ofNat (List.length v_b)) && decide (Int.ofNat (List.length v_b) ≤ Int.ofNat (List.length v_b)) && true && sized v_b 1 then x_ref02_Sort_L0 v_a (List.drop 1 (List.take (Int.toNat (Int.ofNat (List.length v_b))) v_b)) (v_out ++ [[sl z23]]) γ K else none else none else none else bif decide (0 < Int.ofNat (List.length v_b)) then bif decide (Int.ofNat (List.length v_b) = 0) then elemAt v_a 0 fun z24 => bif List.length z24 == 1 then cellAt z24 0 fun z25 => asSl z25 fun z26 => bif sized v_out 1 && true && true && decide ((List.length v_out + 1) * 25 ≤ 70368744177664) && true then bif decide (1 ≤ Int.ofNat (List.length v_a)) && decide (Int.ofNat (List.length v_a) ≤ Int.ofNat (List.length v_a)) && true && sized v_a 1 then x_ref02_Sort_L0 (List.drop 1 (List.take (Int.toNat (Int.ofNat (List.length v_a))) v_a)) v_b (v_out ++ [[sl z26]]) γ K else none else none else none else bif decide (0 < Int.ofNat (List.length v_a)) then elemAt v_a 0 fun z27 => bif List.length z27 == 1 then cellAt z27 0 fun z28 => asSl z28 fun z29 => elemAt v_b 0 fun z30 => bif List.length z30 == 1 then cellAt z30 0 fun z31 => asSl z31 fun z32 => x_ref02_Compare z29 z32 γ fun z33 => bif decide (z33 ≤ 0) then elemAt v_a 0 fun z34 => bif List.length z34 == 1 then cellAt z34 0 fun z35 => asSl z35 fun z36 => bif sized v_out 1 && true && true && decide ((List.length v_out + 1) * 25 ≤ 70368744177664) && true then bif decide (1 ≤ Int.ofNat (List.length v_a)) && decide (Int.ofNat (List.length v_a) ≤ Int.ofNat (List.length v_a)) && true && sized v_a 1 then x_ref02_Sort_L0 (List.drop 1 (List.take (Int.toNat (Int.ofNat (List.length v_a))) v_a)) v_b (v_out ++ [[sl z36]]) γ K else none else none else none else elemAt v_b 0 fun z37 => bif List.length z37 == 1 then cellAt z37 0 fun z38 => asSl z38 fun z39 => bif sized v_out 1 && true && true && decide ((List.length v_out + 1) * 25 ≤ 70368744177664) && true then bif decide (1 ≤ Int.ofNat (List.length v_b)) && decide (Int.ofNat (List.length v_b) ≤ Int.ofNat (List.length v_b)) && true && sized v_b 1 then x_ref02_Sort_L0 v_a (List.drop 1 (List.take (Int.toNat (Int.ofNat (List.length v_b))) v_b)) (v_out ++ [[sl z39]]) γ K else none else none else none else none else none else elemAt v_b 0 fun z40 => bif List.length z40 == 1 then cellAt z40 0 fun z41 => asSl z41 fun z42 => bif sized v_out 1 && true && true && decide ((List.length v_out + 1) * 25 ≤ 70368744177664) && true then bif decide (1 ≤ Int.ofNat (List.length v_b)) && decide (Int.ofNat (List.length v_b) ≤ Int.ofNat (List.length v_b)) && true && sized v_b 1 then x_ref02_Sort_L0 v_a (List.drop 1 (List.take (Int.toNat (Int.ofNat (List.length v_b))) v_b)) (v_out ++ [[sl z42]]) γ K else none else none else none else K (Ex.exit 0) v_a v_b v_out else none
theorem e_ref02_Sort_L0 (p : Par) (x_ref02_Sort_L0 : Ty_ref02_Sort_L0) (x_ref02_Compare v_a v_b v_out) (γ : Type) (K : Ex × Vars → Option γ) : roundK (cfg p) (T_ref02_Sort_L0 x_ref02_Compare) (L_ref02_Sort_L0 x_ref02_Compare) 46 0 [] ([dat (sl v_a), dat (sl v_b), dat (sl v_out)], []) γ (contL (fun v => P_ref02_Sort_L0 x_ref02_Sort_L0 noneL3 [] v γ K) K) = Sp.B_ref02_Sort_L0 x_ref02_Sort_L0 x_ref02_Compare v_a v_b v_out γ (fun e x0 x1 x2 => K (e, ([dat (sl x0), dat (sl x1), dat (sl x2)], []))) := by kernel_rfl
def Sp.ref02_Sort_L0 : Nat → Ty_ref02_Sort_L0
  | 0 => fun _ _ _ _ _ => none
  | n + 1 => Sp.B_ref02_Sort_L0 (Sp.ref02_Sort_L0 n) Sp.ref02_Compare
theorem E0_ref02_Sort_L0 (p : Par)   : ∀ n, EntOkL (cfg p) 46 0 (P_ref02_Sort_L0 (Sp.ref02_Sort_L0 n) noneL3) := entL_rounds (tab_call (tab_nil _) (E_ref02_Compare p (ent_none _ _))) (by kernel_rfl) (fun c v γ K => by unfold P_ref02_Sort_L0; split <;> rfl) fun n c v γ K q h => by
  unfold P_ref02_Sort_L0 at h
  split at h
  · exact (e_ref02_Sort_L0 p _ _ _ _ _ _ _).trans h
  · cases h
theorem E_ref02_Sort_L0 (p : Par)   (n : Nat) {F : Loop3} (hF : EntOkL (cfg p) 46 0 F) : EntOkL (cfg p) 46 0 (P_ref02_Sort_L0 (Sp.ref02_Sort_L0 n) F) := by
  intro c v γ K q h
  unfold P_ref02_Sort_L0 at h
  split at h
  · exact E0_ref02_Sort_L0 p n _ _ _ _ _ h
  · exact hF _ _ _ _ _ h
abbrev Ty_ref02_Sort : Type 1 := List (List Dat) → (γ : Type) → (List (List Dat) → Option γ) → Option γ
def P_ref02_Sort (X : Ty_ref02_Sort) (F : Ent3) : Ent3 := fun a s γ K => match a, s with
  | [dat (sl v_l)], [] => X v_l γ (fun r0 => K ([(dat (sl r0), Own.none)], []))
  | a, s => F a s γ K
def T_ref02_Sort (x_ref02_Sort : Ty_ref02_Sort) (x_ref02_Sort_L0 : Ty_ref02_Sort_L0) : CallK := (addK noneK 46 (P_ref02_Sort x_ref02_Sort none3))
def L_ref02_Sort (x_ref02_Sort : Ty_ref02_Sort) (x_ref02_Sort_L0 : Ty_ref02_Sort_L0) : LoopK := (addL noneL 46 0 (P_ref02_Sort_L0 x_ref02_Sort_L0 noneL3))
def Sp.B_ref02_Sort (x_ref02_Sort : Ty_ref02_Sort) (x_ref02_Sort_L0 : Ty_ref02_Sort_L0) (v_l : List (List Dat)) (γ : Type) (K : List (List Dat) → Option γ) : Option γ := bif decide (Int.ofNat (List.length v_l) < 2) then bif sized v_l 1 && true && decide ((0 + List.length v_l) * 25 ≤ 70368744177664) && true then K ([] ++ v_l) else none else bif decide (0 ≤ IntKind.wrap i64 (Int.tdiv (Int.ofNat (List.length v_l)) 2)) && decide (IntKind.wrap i64 (Int.tdiv (Int.ofNat (List.length v_l)) 2) ≤ Int.ofNat (List.length v_l)) && true && true then x_ref02_Sort (List.drop 0 (List.take (Int.toNat (IntKind.wrap i64 (Int.tdiv (Int.ofNat (List.length v_l)) 2))) v_l)) γ fun z3 => bif decide (0 ≤ IntKind.wrap i64 (Int.tdiv (Int.ofNat (List.length v_l)) 2)) && decide (IntKind.wrap i64 (Int.tdiv (Int.ofNat (List.length v_l)) 2) ≤ Int.ofNat (List.length v_l)) && decide (Int.ofNat (List.length v_l) ≤ Int.ofNat (List.length v_l)) && true && sized v_l 1 then x_ref02_Sort (List.drop (Int.toNat (IntKind.wrap i64 (Int.tdiv (Int.ofNat (List.length v_l)) 2))) (List.take (Int.toNat (Int.ofNat (List.length v_l))) v_l)) γ fun z4 => x_ref02_Sort_L0 z3 z4 [] γ fun z5 z6 z7 z8 => bif sized z8 1 then bif Ex.isExit z5 0 then K z8 else bif Ex.isRet z5 then none else none else none else none else none
theorem e_ref02_Sort (p : Par) (x_ref02_Sort x_ref02_Sort_L0 v_l) (γ : Type) (K : List Ent × Sig → Option γ) : evFK (cfg p) (T_ref02_Sort x_ref02_Sort x_ref02_Sort_L0) (L_ref02_Sort x_ref02_Sort x_ref02_Sort_L0) 46 [dat (sl v_l)] [] γ K = Sp.B_ref02_Sort x_ref02_Sort x_ref02_Sort_L0 v_l γ (fun r0 => K ([(dat (sl r0), Own.none)], [])) := by kernel_rfl
def Sp.ref02_Sort : Nat → Ty_ref02_Sort
  | 0 => fun _ _ _ => none
  | n + 1 => Sp.B_ref02_Sort (Sp.ref02_Sort n) (Sp.ref02_Sort_L0 fuel)
theorem G103_ok (p : Par) (n : Nat) : (∀ {F : Ent3}, EntOk (cfg p) 46 F → EntOk (cfg p) 46 (P_ref02_Sort (Sp.ref02_Sort n) F)) := by
  induction n with
  | zero =>
    refine ?_
    · intro F hF a s γ K q h
      unfold P_ref02_Sort at h
      split at h
      · cases h
      · exact hF _ _ _ _ _ h
  | succ n ih =>
    refine ?_
    · intro F hF a s γ K q h
      unfold P_ref02_Sort at h
      split at h
      · exact body_ok (tab_loop (tab_call (tab_nil _) (ih (ent_none _ _))) (E_ref02_Sort_L0 p fuel (entL_none _ _ _))) rfl ((e_ref02_Sort p _ _ _ _ _).trans h)
      · exact hF _ _ _ _ _ h
theorem E_ref02_Sort (p : Par) (n : Nat) {F : Ent3} (hF : EntOk (cfg p) 46 F) : EntOk (cfg p) 46 (P_ref02_Sort (Sp.ref02_Sort n) F) := (G103_ok p n) hF
abbrev Ty_ref02_Same : Type 1 := List (List Dat) → List (List Dat) → (γ : Type) → (Bool → Option γ) → Option γ
def P_ref02_Same (X : Ty_ref02_Same) (F : Ent3) : Ent3 := fun a s γ K => match a, s with
  | [dat (sl v_a), dat (sl v_b)], [] => X v_a v_b γ (fun r0 => K ([(dat (Dat.bool r0), Own.none)], []))
  | a, s => F a s γ K
def T_ref02_Same (x_ref02_Compare : Ty_ref02_Compare) : CallK := (addK noneK 72 (P_ref02_Compare x_ref02_Compare none3))
def L_ref02_Same (x_ref02_Compare : Ty_ref02_Compare) : LoopK := noneL
def Sp.B_ref02_Same (x_ref02_Compare : Ty_ref02_Compare) (v_a v_b : List (List Dat)) (γ : Type) (K : Bool → Option γ) : Option γ := x_ref02_Compare v_a v_b γ fun z4 => K (decide (z4 = 0))
theorem e_ref02_Same (p : Par) (x_ref02_Compare v_a v_b) (γ : Type) (K : List Ent × Sig → Option γ) : evFK (cfg p) (T_ref02_Same x_ref02_Compare) (L_ref02_Same x_ref02_Compare) 58 [dat (sl v_a), dat (sl v_b)] [] γ K = Sp.B_ref02_Same x_ref02_Compare v_a v_b γ (fun r0 => K ([(dat (Dat.bool r0), Own.none)], [])) := by kernel_rfl
def Sp.ref02_Same : Ty_ref02_Same := Sp.B_ref02_Same Sp.ref02_Compare
theorem E_ref02_Same (p : Par) {F : Ent3} (hF : EntOk (cfg p) 58 F) : EntOk (cfg p) 58 (P_ref02_Same Sp.ref02_Same F) := by
  intro a s γ K q h
  unfold P_ref02_Same at h
  split at h
  · exact body_ok (tab_call (tab_nil _) (E_ref02_Compare p (ent_none _ _))) rfl ((e_ref02_Same p _ _ _ _ _).trans h)
  · exact hF _ _ _ _ _ h
abbrev Ty_ref02_SameList_L0 : Type 1 := List (List Dat) → List (List Dat) → Bool → Int → (γ : Type) → (Ex → Bool → Int → Option γ) → Option γ
def P_ref02_SameList_L0 (X : Ty_ref02_SameList_L0) (F : Loop3) : Loop3 := fun a s γ K => match a, s with
  | [dat (sl v_a), dat (sl v_b)], ([dat (Dat.bool v_), dat (int i64 v_i)], []) => X v_a v_b v_ v_i γ (fun e x0 x1 => K (e, ([dat (Dat.bool x0), dat (int i64 x1)], [])))
  | a, s => F a s γ K
def T_ref02_SameList_L0 (x_ref02_Same : Ty_ref02_Same) : CallK := (addK noneK 58 (P_ref02_Same x_ref02_Same none3))
def L_ref02_SameList_L0 (x_ref02_Same : Ty_ref02_Same) : LoopK := noneL
def Sp.B_ref02_SameList_L0 (x_ref02_SameList_L0 : Ty_ref02_SameList_L0) (x_ref02_Same : Ty_ref02_Same) (v_a v_b : List (List Dat)) (v_ : Bool) (v_i : Int) (γ : Type) (K : Ex → Bool → Int → Option γ) : Option γ := bif decide (v_i < Int.ofNat (List.length v_a)) then elemAt v_a v_i fun z6 => bif List.length z6 == 1 then cellAt z6 0 fun z7 => asSl z7 fun z8 => elemAt v_b v_i fun z9 => bif List.length z9 == 1 then cellAt z9 0 fun z10 => asSl z10 fun z11 => x_ref02_Same z8 z11 γ fun z12 => bif !z12 then K Ex.ret false v_i else x_ref02_SameList_L0 v_a v_b v_ (IntKind.wrap i64 (v_i + 1)) γ K else none else none else K (Ex.exit 0) v_ v_i
theorem e_ref02_SameList_L0 (p : Par) (x_ref02_SameList_L0 : Ty_ref02_SameList_L0) (x_ref02_Same v_a v_b v_ v_i) (γ : Type) (K : Ex × Vars → Option γ) : roundK (cfg p) (T_ref02_SameList_L0 x_ref02_Same) (L_ref02_SameList_L0 x_ref02_Same) 27 0 [dat (sl v_a), dat (sl v_b)] ([dat (Dat.bool v_), dat (int i64 v_i)], []) γ (contL (fun v => P_ref02_SameList_L0 x_ref02_SameList_L0 noneL3 [dat (sl v_a), dat (sl v_b)] v γ K) K) = Sp.B_ref02_SameList_L0 x_ref02_SameList_L0 x_ref02_Same v_a v_b v_ v_i γ (fun e x0 x1 => K (e, ([dat (Dat.bool x0), dat (int i64 x1)], []))) := by kernel_rfl
def Sp.ref02_SameList_L0 : Nat → Ty_ref02_SameList_L0
  | 0 => fun _ _ _ _ _ _ => none
  | n + 1 => Sp.B_ref02_SameList_L0 (Sp.ref02_SameList_L0 n) Sp.ref02_Same
theorem E0_ref02_SameList_L0 (p : Par)   : ∀ n, EntOkL (cfg p) 27 0 (P_ref02_SameList_L0 (Sp.ref02_SameList_L0 n) noneL3) := entL_rounds (tab_call (tab_nil _) (E_ref02_Same p (ent_none _ _))) (by kernel_rfl) (fun c v γ K => by unfold P_ref02_SameList_L0; split <;> rfl) fun n c v γ K q h => by
  unfold P_ref02_SameList_L0 at h
  split at h
  · exact (e_ref02_SameList_L0 p _ _ _ _ _ _ _ _).trans h
  · cases h
theorem E_ref02_SameList_L0 (p : Par)   (n : Nat) {F : Loop3} (hF : EntOkL (cfg p) 27 0 F) : EntOkL (cfg p) 27 0 (P_ref02_SameList_L0 (Sp.ref02_SameList_L0 n) F) := by
  intro c v γ K q h
  unfold P_ref02_SameList_L0 at h
  split at h
  · exact E0_ref02_SameList_L0 p n _ _ _ _ _ h
  · exact hF _ _ _ _ _ h
abbrev Ty_ref02_SameList : Type 1 := List (List Dat) → List (List Dat) → (γ : Type) → (Bool → Option γ) → Option γ
def P_ref02_SameList (X : Ty_ref02_SameList) (F : Ent3) : Ent3 := fun a s γ K => match a, s with
  | [dat (sl v_a), dat (sl v_b)], [] => X v_a v_b γ (fun r0 => K ([(dat (Dat.bool r0), Own.none)], []))
  | a, s => F a s γ K
def T_ref02_SameList (x_ref02_SameList_L0 : Ty_ref02_SameList_L0) : CallK := noneK
def L_ref02_SameList (x_ref02_SameList_L0 : Ty_ref02_SameList_L0) : LoopK := (addL noneL 27 0 (P_ref02_SameList_L0 x_ref02_SameList_L0 noneL3))
def Sp.B_ref02_SameList (x_ref02_SameList_L0 : Ty_ref02_SameList_L0) (v_a v_b : List (List Dat)) (γ : Type) (K : Bool → Option γ) : Option γ := bif !decide (Int.ofNat (List.length v_a) = Int.ofNat (List.length v_b)) then K false else x_ref02_SameList_L0 v_a v_b false 0 γ fun z4 z5 z6 => bif Ex.isExit z4 0 then K true else bif Ex.isRet z4 then K z5 else none
theorem e_ref02_SameList (p : Par) (x_ref02_SameList_L0 v_a v_b) (γ : Type) (K : List Ent × Sig → Option γ) : evFK (cfg p) (T_ref02_SameList x_ref02_SameList_L0) (L_ref02_SameList x_ref02_SameList_L0) 27 [dat (sl v_a), dat (sl v_b)] [] γ K = Sp.B_ref02_SameList x_ref02_SameList_L0 v_a v_b γ (fun r0 => K ([(dat (Dat.bool r0), Own.none)], [])) := by kernel_rfl
def Sp.ref02_SameList : Ty_ref02_SameList := Sp.B_ref02_SameList (Sp.ref02_SameList_L0 fuel)
theorem E_ref02_SameList (p : Par) {F : Ent3} (hF : EntOk (cfg p) 27 F) : EntOk (cfg p) 27 (P_ref02_SameList Sp.ref02_SameList F) := by
  intro a s γ K q h
  unfold P_ref02_SameList at h
  split at h
  · exact body_ok (tab_loop (tab_nil _) (E_ref02_SameList_L0 p fuel (entL_none _ _ _))) rfl ((e_ref02_SameList p _ _ _ _ _).trans h)
  · exact hF _ _ _ _ _ h
abbrev Ty_ref13_Same_L0 : Type 1 := List (List Dat) → List (List Dat) → Bool → Int → (γ : Type) → (Ex → Bool → Int → Option γ) → Option γ
def P_ref13_Same_L0 (X : Ty_ref13_Same_L0) (F : Loop3) : Loop3 := fun a s γ K => match a, s with
  | [dat (sl v_a), dat (sl v_b)], ([dat (Dat.bool v_), dat (int i64 v_i)], []) => X v_a v_b v_ v_i γ (fun e x0 x1 => K (e, ([dat (Dat.bool x0), dat (int i64 x1)], [])))
  | a, s => F a s γ K
def T_ref13_Same_L0 (x_ref13_SameColumns : Ty_ref13_SameColumns) (x_ref02_Sort : Ty_ref02_Sort) (x_ref02_SameList : Ty_ref02_SameList) : CallK := (addK (addK (addK noneK 17 (P_ref13_SameColumns x_ref13_SameColumns none3)) 46 (P_ref02_Sort x_ref02_Sort none3)) 27 (P_ref02_SameList x_ref02_SameList none3))
def L_ref13_Same_L0 (x_ref13_SameColumns : Ty_ref13_SameColumns) (x_ref02_Sort : Ty_ref02_Sort) (x_ref02_SameList : Ty_ref02_SameList) : LoopK := noneL
def Sp.B_ref13_Same_L0 (x_ref13_Same_L0 : Ty_ref13_Same_L0) (x_ref13_SameColumns : Ty_ref13_SameColumns) (x_ref02_Sort : Ty_ref02_Sort) (x_ref02_SameList : Ty_ref02_SameList) (v_a v_b : List (List Dat)) (v_ : Bool) (v_i : Int) (γ : Type) (K : Ex → Bool → Int → Option γ) : Option γ := bif decide (v_i < Int.ofNat (List.length v_a)) then elemAt v_a v_i fun z6 => bif List.length z6 == 3 then cellAt (List.drop 0 z6) 0 fun z7 => asStr z7 fun z8 => elemAt v_b v_i fun z9 => bif List.length z9 == 3 then cellAt (List.drop 0 z9) 0 fun z10 => asStr z10 fun z11 => bif !decide (z8 = z11) then K Ex.ret false v_i else elemAt v_a v_i fun z12 => bif List.length z12 == 3 then cellAt (List.drop 1 z12) 0 fun z13 => asSl z13 fun z14 => elemAt v_b v_i fun z15 => bif List.length z15 == 3 then cellAt (List.drop 1 z15) 0 fun z16 => asSl z16 fun z17 => x_ref13_SameColumns z14 z17 γ fun z18 => bif !z18 then K Ex.ret false v_i else elemAt v_a v_i fun z19 => bif List.length z19 == 3 then cellAt (List.drop 2 z19) 0 fun z20 => asSl z20 fun z21 => x_ref02_Sort z21 γ fun z22 => elemAt v_b v_i fun z23 => bif List.length z23 == 3 then cellAt (List.drop 2 z23) 0 fun z24 => asSl z24 fun z25 => x_ref02_Sort z25 γ fun z26 => x_ref02_SameList z22 z26 γ fun z27 => bif !z27 then K Ex.ret false v_i else x_ref13_Same_L0 v_a v_b v_ (IntKind.wrap i64 (v_i + 1)) γ K else none else none else none else none else none else none else K (Ex.exit 0) v_ v_i
theorem e_ref13_Same_L0 (p : Par) (x_ref13_Same_L0 : Ty_ref13_Same_L0) (x_ref13_SameColumns x_ref02_Sort x_ref02_SameList v_a v_b v_ v_i) (γ : Type) (K : Ex × Vars → Option γ) : roundK (cfg p) (T_ref13_Same_L0 x_ref13_SameColumns x_ref02_Sort x_ref02_SameList) (L_ref13_Same_L0 x_ref13_SameColumns x_ref02_Sort x_ref02_SameList) 16 0 [dat (sl v_a), dat (sl v_b)] ([dat (Dat.bool v_), dat (int i64 v_i)], []) γ (contL (fun v => P_ref13_Same_L0 x_ref13_Same_L0 noneL3 [dat (sl v_a), dat (sl v_b)] v γ K) K) = Sp.B_ref13_Same_L0 x_ref13_Same_L0 x_ref13_SameColumns x_ref02_Sort x_ref02_SameList v_a v_b v_ v_i γ (fun e x0 x1 => K (e, ([dat (Dat.bool x0), dat (int i64 x1)], []))) := by kernel_rfl
def Sp.ref13_Same_L0 : Nat → Ty_ref13_Same_L0
  | 0 => fun _ _ _ _ _ _ => none
  | n + 1 => Sp.B_ref13_Same_L0 (Sp.ref13_Same_L0 n) Sp.ref13_SameColumns (Sp.ref02_Sort fuel) Sp.ref02_SameList
theorem E0_ref13_Same_L0 (p : Par)   : ∀ n, EntOkL (cfg p) 16 0 (P_ref13_Same_L0 (Sp.ref13_Same_L0 n) noneL3) := entL_rounds (tab_call (tab_call (tab_call (tab_nil _) (E_ref13_SameColumns p (ent_none _ _))) (E_ref02_Sort p fuel (ent_none _ _))) (E_ref02_SameList p (ent_none _ _))) (by kernel_rfl) (fun c v γ K => by unfold P_ref13_Same_L0; split <;> rfl) fun n c v γ K q h => by
  unfold P_ref13_Same_L0 at h
  split at h
  · exact (e_ref13_Same_L0 p _ _ _ _ _ _ _ _ _ _).trans h
  · cases h
theorem E_ref13_Same_L0 (p : Par)   (n : Nat) {F : Loop3} (hF : EntOkL (cfg p) 16 0 F) : EntOkL (cfg p) 16 0 (P_ref13_Same_L0 (Sp.ref13_Same_L0 n) F) := by
  intro c v γ K q h
  unfold P_ref13_Same_L0 at h
  split at h
  · exact E0_ref13_Same_L0 p n _ _ _ _ _ h
  · exact hF _ _ _ _ _ h
abbrev Ty_ref13_Same : Type 1 := List (List Dat) → List (List Dat) → (γ : Type) → (Bool → Option γ) → Option γ
def P_ref13_Same (X : Ty_ref13_Same) (F : Ent3) : Ent3 := fun a s γ K => match a, s with
  | [dat (sl v_a), dat (sl v_b)], [] => X v_a v_b γ (fun r0 => K ([(dat (Dat.bool r0), Own.none)], []))
  | a, s => F a s γ K
def T_ref13_Same (x_ref13_Same_L0 : Ty_ref13_Same_L0) : CallK := noneK
def L_ref13_Same (x_ref13_Same_L0 : Ty_ref13_Same_L0) : LoopK := (addL noneL 16 0 (P_ref13_Same_L0 x_ref13_Same_L0 noneL3))
def Sp.B_ref13_Same (x_ref13_Same_L0 : Ty_ref13_Same_L0) (v_a v_b : List (List Dat)) (γ : Type) (K : Bool → Option γ) : Option γ := bif !decide (Int.ofNat (List.length v_a) = Int.ofNat (List.length v_b)) then K false else x_ref13_Same_L0 v_a v_b false 0 γ fun z4 z5 z6 => bif Ex.isExit z4 0 then K true else bif Ex.isRet z4 then K z5 else none
theorem e_ref13_Same (p : Par) (x_ref13_Same_L0 v_a v_b) (γ : Type) (K : List Ent × Sig → Option γ) : evFK (cfg p) (T_ref13_Same x_ref13_Same_L0) (L_ref13_Same x_ref13_Same_L0) 16 [dat (sl v_a), dat (sl v_b)] [] γ K = Sp.B_ref13_Same x_ref13_Same_L0 v_a v_b γ (fun r0 => K ([(dat (Dat.bool r0), Own.none)], [])) := by kernel_rfl
def Sp.ref13_Same : Ty_ref13_Same := Sp.B_ref13_Same (Sp.ref13_Same_L0 fuel)
theorem E_ref13_Same (p : Par) {F : Ent3} (hF : EntOk (cfg p) 16 F) : EntOk (cfg p) 16 (P_ref13_Same Sp.ref13_Same F) := by
  intro a s γ K q h
  unfold P_ref13_Same at h
  split at h
  · exact body_ok (tab_loop (tab_nil _) (E_ref13_Same_L0 p fuel (entL_none _ _ _))) rfl ((e_ref13_Same p _ _ _ _ _).trans h)
  · exact hF _ _ _ _ _ h
abbrev Ty_law13_CatalogChecks : Type 1 := List (List Dat) → ByteArray → (γ : Type) → (Bool → Option γ) → Option γ
def P_law13_CatalogChecks (X : Ty_law13_CatalogChecks) (F : Ent3) : Ent3 := fun a s γ K => match a, s with
  | [dat (sl v_c), dat (str v_name)], [] => X v_c v_name γ (fun r0 => K ([(dat (Dat.bool r0), Own.none)], []))
  | a, s => F a s γ K
def T_law13_CatalogChecks (x_ref13_Large : Ty_ref13_Large) (x_law13_lives : Ty_law13_lives) (x_ref13_Check : Ty_ref13_Check) (x_catalog_Find : Ty_catalog_Find) (x_ref13_Find : Ty_ref13_Find) (x_catalog_Check : Ty_catalog_Check) (x_law13_CatalogChecks_L0 : Ty_law13_CatalogChecks_L0) (x_ref13_Same : Ty_ref13_Same) : CallK := (addK (addK (addK (addK (addK (addK (addK noneK 8 (P_ref13_Large x_ref13_Large none3)) 9 (P_law13_lives x_law13_lives none3)) 10 (P_ref13_Check x_ref13_Check none3)) 11 (P_catalog_Find x_catalog_Find none3)) 12 (P_ref13_Find x_ref13_Find none3)) 13 (P_catalog_Check x_catalog_Check none3)) 16 (P_ref13_Same x_ref13_Same none3))
def L_law13_CatalogChecks (x_ref13_Large : Ty_ref13_Large) (x_law13_lives : Ty_law13_lives) (x_ref13_Check : Ty_ref13_Check) (x_catalog_Find : Ty_catalog_Find) (x_ref13_Find : Ty_ref13_Find) (x_catalog_Check : Ty_catalog_Check) (x_law13_CatalogChecks_L0 : Ty_law13_CatalogChecks_L0) (x_ref13_Same : Ty_ref13_Same) : LoopK := (addL noneL 3 0 (P_law13_CatalogChecks_L0 x_law13_CatalogChecks_L0 noneL3))
def Sp.B_law13_CatalogChecks (x_ref13_Large : Ty_ref13_Large) (x_law13_lives : Ty_law13_lives) (x_ref13_Check : Ty_ref13_Check) (x_catalog_Find : Ty_catalog_Find) (x_ref13_Find : Ty_ref13_Find) (x_catalog_Check : Ty_catalog_Check) (x_law13_CatalogChecks_L0 : Ty_law13_CatalogChecks_L0) (x_ref13_Same : Ty_ref13_Same) (v_c : List (List Dat)) (v_name : ByteArray) (γ : Type) (K : Bool → Option γ) : Option γ := x_ref13_Large v_c γ fun z4 => bif z4 then x_law13_lives γ fun z5 => K z5 else bif decide (1000 < Int.ofNat (ByteArray.size v_name)) then x_law13_lives γ fun z6 => K z6 else x_ref13_Check v_c γ fun z7 => bif !z7 then x_catalog_Find v_c v_name γ fun z8 z9 z10 z11 => x_ref13_Find v_c v_name γ fun z12 => x_law13_lives γ fun z13 => bif !z13 then K false else x_catalog_Check v_c γ fun z14 => bif !decide (z14 = 130) then K false else bif !z11 == decide (0 ≤ z12) then K false else x_law13_CatalogChecks_L0 v_c z11 z12 false 0 z8 z9 z10 γ fun z15 z16 z17 z18 z19 z20 => bif Ex.isExit z15 0 then bif !z11 then bif decide (z18 = bs []) then bif decide (Int.ofNat (List.length z19) = 0) then K (decide (Int.ofNat (List.length z20) = 0)) else K false else K false else elemAt v_c z12 fun z21 => bif List.length z21 == 3 then cellAt z21 0 fun z22 => asStr z22 fun z23 => cellAt z21 1 fun z24 => asSl z24 fun z25 => cellAt z21 2 fun z26 => asSl z26 fun z27 => x_ref13_Same [[str z18, sl z19, sl z20]] [[str z23, sl z25, sl z27]] γ fun z28 => K z28 else none else bif Ex.isRet z15 then K z16 else none else x_catalog_Find v_c v_name γ fun z29 z30 z31 z32 => x_ref13_Find v_c v_name γ fun z33 => x_law13_lives γ fun z34 => bif !z34 then K false else x_catalog_Check v_c γ fun z35 => bif !decide (z35 = 0) then K false else bif !z32 == decide (0 ≤ z33) then K false else x_law13_CatalogChecks_L0 v_c z32 z33 false 0 z29 z30 z31 γ fun z36 z37 z38 z39 z40 z41 => bif Ex.isExit z36 0 then bif !z32 then bif decide (z39 = bs []) then bif decide (Int.ofNat (List.length z40) = 0) then K (decide (Int.ofNat (List.length z41) = 0)) else K false else K false else elemAt v_c z33 fun z42 => bif List.length z42 == 3 then cellAt z42 0 fun z43 => asStr z43 fun z44 => cellAt z42 1 fun z45 => asSl z45 fun z46 => cellAt z42 2 fun z47 => asSl z47 fun z48 => x_ref13_Same [[str z39, sl z40, sl z41]] [[str z44, sl z46, sl z48]] γ fun z49 => K z49 else none else bif Ex.isRet z36 then K z37 else none
theorem e_law13_CatalogChecks (p : Par) (x_ref13_Large x_law13_lives x_ref13_Check x_catalog_Find x_ref13_Find x_catalog_Check x_law13_CatalogChecks_L0 x_ref13_Same v_c v_name) (γ : Type) (K : List Ent × Sig → Option γ) : evFK (cfg p) (T_law13_CatalogChecks x_ref13_Large x_law13_lives x_ref13_Check x_catalog_Find x_ref13_Find x_catalog_Check x_law13_CatalogChecks_L0 x_ref13_Same) (L_law13_CatalogChecks x_ref13_Large x_law13_lives x_ref13_Check x_catalog_Find x_ref13_Find x_catalog_Check x_law13_CatalogChecks_L0 x_ref13_Same) 3 [dat (sl v_c), dat (str v_name)] [] γ K = Sp.B_law13_CatalogChecks x_ref13_Large x_law13_lives x_ref13_Check x_catalog_Find x_ref13_Find x_catalog_Check x_law13_CatalogChecks_L0 x_ref13_Same v_c v_name γ (fun r0 => K ([(dat (Dat.bool r0), Own.none)], [])) := by kernel_rfl
def Sp.law13_CatalogChecks : Ty_law13_CatalogChecks := Sp.B_law13_CatalogChecks Sp.ref13_Large Sp.law13_lives Sp.ref13_Check Sp.catalog_Find Sp.ref13_Find Sp.catalog_Check (Sp.law13_CatalogChecks_L0 fuel) Sp.ref13_Same
theorem E_law13_CatalogChecks (p : Par) {F : Ent3} (hF : EntOk (cfg p) 3 F) : EntOk (cfg p) 3 (P_law13_CatalogChecks Sp.law13_CatalogChecks F) := by
  intro a s γ K q h
  unfold P_law13_CatalogChecks at h
  split at h
  · exact body_ok (tab_loop (tab_call (tab_call (tab_call (tab_call (tab_call (tab_call (tab_call (tab_nil _) (E_ref13_Large p (ent_none _ _))) (E_law13_lives p (ent_none _ _))) (E_ref13_Check p (ent_none _ _))) (E_catalog_Find p (ent_none _ _))) (E_ref13_Find p (ent_none _ _))) (E_catalog_Check p (ent_none _ _))) (E_ref13_Same p (ent_none _ _))) (E_law13_CatalogChecks_L0 p fuel (entL_none _ _ _))) rfl ((e_law13_CatalogChecks p _ _ _ _ _ _ _ _ _ _ _ _).trans h)
  · exact hF _ _ _ _ _ h
abbrev Ty_ref13_Columns_L0 : Type 1 := ByteArray → List (List Dat) → Int → ByteArray → List (List Dat) → List (List Dat) → (γ : Type) → (Ex → List (List Dat) → Int → ByteArray → List (List Dat) → List (List Dat) → Option γ) → Option γ
def P_ref13_Columns_L0 (X : Ty_ref13_Columns_L0) (F : Loop3) : Loop3 := fun a s γ K => match a, s with
  | [dat (str v_as), AVal.loc 2 0], ([dat (sl v_out), dat (int i64 v_i), agg [(str w0, Own.none), (sl w1, Own.none), (sl w2, Own.none)]], []) => X v_as v_out v_i w0 w1 w2 γ (fun e x0 x1 x2 x3 x4 => K (e, ([dat (sl x0), dat (int i64 x1), agg [(str x2, Own.none), (sl x3, Own.none), (sl x4, Own.none)]], [])))
  | a, s => F a s γ K
def T_ref13_Columns_L0 : CallK := noneK
def L_ref13_Columns_L0 : LoopK := noneL
def Sp.B_ref13_Columns_L0 (x_ref13_Columns_L0 : Ty_ref13_Columns_L0)  (v_as : ByteArray) (v_out : List (List Dat)) (v_i : Int) (w0 : ByteArray) (w1 w2 : List (List Dat)) (γ : Type) (K : Ex → List (List Dat) → Int → ByteArray → List (List Dat) → List (List Dat) → Option γ) : Option γ := bif sized v_out 3 then bif decide (v_i < Int.ofNat (List.length w1)) then elemAt w1 v_i fun z8 => bif List.length z8 == 3 then cellAt z8 0 fun z9 => asStr z9 fun z10 => cellAt z8 1 fun z11 => asStr z11 fun z12 => cellAt z8 2 fun z13 => Aev.asInt i64 z13 fun z14 => bif sized v_out 3 && true && true && decide ((List.length v_out + 1) * 41 ≤ 70368744177664) && true then x_ref13_Columns_L0 v_as (v_out ++ [[str v_as, str z12, int i64 z14]]) (IntKind.wrap i64 (v_i + 1)) w0 w1 w2 γ K else none else none else K (Ex.exit 0) v_out v_i w0 w1 w2 else none
theorem e_ref13_Columns_L0 (p : Par) (x_ref13_Columns_L0 : Ty_ref13_Columns_L0) (v_as v_out v_i w0 w1 w2) (γ : Type) (K : Ex × Vars → Option γ) : roundK (cfg p) (T_ref13_Columns_L0) (L_ref13_Columns_L0) 19 0 [dat (str v_as), AVal.loc 2 0] ([dat (sl v_out), dat (int i64 v_i), agg [(str w0, Own.none), (sl w1, Own.none), (sl w2, Own.none)]], []) γ (contL (fun v => P_ref13_Columns_L0 x_ref13_Columns_L0 noneL3 [dat (str v_as), AVal.loc 2 0] v γ K) K) = Sp.B_ref13_Columns_L0 x_ref13_Columns_L0 v_as v_out v_i w0 w1 w2 γ (fun e x0 x1 x2 x3 x4 => K (e, ([dat (sl x0), dat (int i64 x1), agg [(str x2, Own.none), (sl x3, Own.none), (sl x4, Own.none)]], []))) := by kernel_rfl
def Sp.ref13_Columns_L0 : Nat → Ty_ref13_Columns_L0
  | 0 => fun _ _ _ _ _ _ _ _ => none
  | n + 1 => Sp.B_ref13_Columns_L0 (Sp.ref13_Columns_L0 n) 
theorem E0_ref13_Columns_L0 (p : Par)   : ∀ n, EntOkL (cfg p) 19 0 (P_ref13_Columns_L0 (Sp.ref13_Columns_L0 n) noneL3) := entL_rounds (tab_nil _) (by kernel_rfl) (fun c v γ K => by unfold P_ref13_Columns_L0; split <;> rfl) fun n c v γ K q h => by
  unfold P_ref13_Columns_L0 at h
  split at h
  · exact (e_ref13_Columns_L0 p _ _ _ _ _ _ _ _ _).trans h
  · cases h
theorem E_ref13_Columns_L0 (p : Par)   (n : Nat) {F : Loop3} (hF : EntOkL (cfg p) 19 0 F) : EntOkL (cfg p) 19 0 (P_ref13_Columns_L0 (Sp.ref13_Columns_L0 n) F) := by
  intro c v γ K q h
  unfold P_ref13_Columns_L0 at h
  split at h
  · exact E0_ref13_Columns_L0 p n _ _ _ _ _ h
  · exact hF _ _ _ _ _ h
abbrev Ty_ref13_Columns : Type 1 := ByteArray → List (List Dat) → List (List Dat) → ByteArray → (γ : Type) → (List (List Dat) → Option γ) → Option γ
def P_ref13_Columns (X : Ty_ref13_Columns) (F : Ent3) : Ent3 := fun a s γ K => match a, s with
  | [agg [(str v_t0, Own.none), (sl v_t1, Own.none), (sl v_t2, Own.none)], dat (str v_as)], [] => X v_t0 v_t1 v_t2 v_as γ (fun r0 => K ([(dat (sl r0), Own.none)], []))
  | a, s => F a s γ K
def T_ref13_Columns (x_ref13_Columns_L0 : Ty_ref13_Columns_L0) : CallK := noneK
def L_ref13_Columns (x_ref13_Columns_L0 : Ty_ref13_Columns_L0) : LoopK := (addL noneL 19 0 (P_ref13_Columns_L0 x_ref13_Columns_L0 noneL3))
def Sp.B_ref13_Columns (x_ref13_Columns_L0 : Ty_ref13_Columns_L0) (v_t0 : ByteArray) (v_t1 v_t2 : List (List Dat)) (v_as : ByteArray) (γ : Type) (K : List (List Dat) → Option γ) : Option γ := x_ref13_Columns_L0 v_as [] 0 v_t0 v_t1 v_t2 γ fun z6 z7 z8 z9 z10 z11 => bif sized z7 3 then bif Ex.isExit z6 0 then K z7 else bif Ex.isRet z6 then none else none else none
theorem e_ref13_Columns (p : Par) (x_ref13_Columns_L0 v_t0 v_t1 v_t2 v_as) (γ : Type) (K : List Ent × Sig → Option γ) : evFK (cfg p) (T_ref13_Columns x_ref13_Columns_L0) (L_ref13_Columns x_ref13_Columns_L0) 19 [agg [(str v_t0, Own.none), (sl v_t1, Own.none), (sl v_t2, Own.none)], dat (str v_as)] [] γ K = Sp.B_ref13_Columns x_ref13_Columns_L0 v_t0 v_t1 v_t2 v_as γ (fun r0 => K ([(dat (sl r0), Own.none)], [])) := by kernel_rfl
def Sp.ref13_Columns : Ty_ref13_Columns := Sp.B_ref13_Columns (Sp.ref13_Columns_L0 fuel)
theorem E_ref13_Columns (p : Par) {F : Ent3} (hF : EntOk (cfg p) 19 F) : EntOk (cfg p) 19 (P_ref13_Columns Sp.ref13_Columns F) := by
  intro a s γ K q h
  unfold P_ref13_Columns at h
  split at h
  · exact body_ok (tab_loop (tab_nil _) (E_ref13_Columns_L0 p fuel (entL_none _ _ _))) rfl ((e_ref13_Columns p _ _ _ _ _ _ _).trans h)
  · exact hF _ _ _ _ _ h
abbrev Ty_ref13_Type : Type 1 := Int → (γ : Type) → (ByteArray → Option γ) → Option γ
def P_ref13_Type (X : Ty_ref13_Type) (F : Ent3) : Ent3 := fun a s γ K => match a, s with
  | [dat (int i64 v_n)], [] => X v_n γ (fun r0 => K ([(dat (str r0), Own.none)], []))
  | a, s => F a s γ K
def T_ref13_Type : CallK := noneK
def L_ref13_Type : LoopK := noneL
def Sp.B_ref13_Type (v_n : Int) (γ : Type) (K : ByteArray → Option γ) : Option γ := bif decide (v_n = 1) then K (bs [66, 79, 79, 76]) else bif decide (v_n = 2) then K (bs [73, 78, 84]) else bif decide (v_n = 3) then K (bs [84, 69, 88, 84]) else K (bs [63])
theorem e_ref13_Type (p : Par) (v_n) (γ : Type) (K : List Ent × Sig → Option γ) : evFK (cfg p) (T_ref13_Type) (L_ref13_Type) 50 [dat (int i64 v_n)] [] γ K = Sp.B_ref13_Type v_n γ (fun r0 => K ([(dat (str r0), Own.none)], [])) := by kernel_rfl
def Sp.ref13_Type : Ty_ref13_Type := Sp.B_ref13_Type 
theorem E_ref13_Type (p : Par) {F : Ent3} (hF : EntOk (cfg p) 50 F) : EntOk (cfg p) 50 (P_ref13_Type Sp.ref13_Type F) := by
  intro a s γ K q h
  unfold P_ref13_Type at h
  split at h
  · exact body_ok (tab_nil _) rfl ((e_ref13_Type p _ _ _).trans h)
  · exact hF _ _ _ _ _ h
abbrev Ty_ref13_Show_L0 : Type 1 := ByteArray → Int → ByteArray → List (List Dat) → List (List Dat) → (γ : Type) → (Ex → ByteArray → Int → ByteArray → List (List Dat) → List (List Dat) → Option γ) → Option γ
def P_ref13_Show_L0 (X : Ty_ref13_Show_L0) (F : Loop3) : Loop3 := fun a s γ K => match a, s with
  | [AVal.loc 1 0], ([dat (str v_s), dat (int i64 v_i), agg [(str w0, Own.none), (sl w1, Own.none), (sl w2, Own.none)]], []) => X v_s v_i w0 w1 w2 γ (fun e x0 x1 x2 x3 x4 => K (e, ([dat (str x0), dat (int i64 x1), agg [(str x2, Own.none), (sl x3, Own.none), (sl x4, Own.none)]], [])))
  | a, s => F a s γ K
def T_ref13_Show_L0 (x_ref13_Type : Ty_ref13_Type) : CallK := (addK noneK 50 (P_ref13_Type x_ref13_Type none3))
def L_ref13_Show_L0 (x_ref13_Type : Ty_ref13_Type) : LoopK := noneL
def Sp.B_ref13_Show_L0 (x_ref13_Show_L0 : Ty_ref13_Show_L0) (x_ref13_Type : Ty_ref13_Type) (v_s : ByteArray) (v_i : Int) (w0 : ByteArray) (w1 w2 : List (List Dat)) (γ : Type) (K : Ex → ByteArray → Int → ByteArray → List (List Dat) → List (List Dat) → Option γ) : Option γ := bif decide (v_i < Int.ofNat (List.length w1)) then bif decide (0 < v_i) then bif decide (ByteArray.size v_s + 2 ≤ 1152921504606846976) then elemAt w1 v_i fun z7 => bif List.length z7 == 3 then cellAt (List.drop 1 z7) 0 fun z8 => asStr z8 fun z9 => bif decide (ByteArray.size (v_s ++ bs [44, 32]) + ByteArray.size z9 ≤ 1152921504606846976) then bif decide (ByteArray.size (v_s ++ bs [44, 32] ++ z9) + 1 ≤ 1152921504606846976) then elemAt w1 v_i fun z10 => bif List.length z10 == 3 then cellAt (List.drop 2 z10) 0 fun z11 => Aev.asInt i64 z11 fun z12 => x_ref13_Type z12 γ fun z13 => bif decide (ByteArray.size (v_s ++ bs [44, 32] ++ z9 ++ bs [32]) + ByteArray.size z13 ≤ 1152921504606846976) then x_ref13_Show_L0 (v_s ++ bs [44, 32] ++ z9 ++ bs [32] ++ z13) (IntKind.wrap i64 (v_i + 1)) w0 w1 w2 γ K else none else none else none else none else none else none else elemAt w1 v_i fun z14 => bif List.length z14 == 3 then cellAt (List.drop 1 z14) 0 fun z15 => asStr z15 fun z16 => bif decide (ByteArray.size v_s + ByteArray.size z16 ≤ 1152921504606846976) then bif decide (ByteArray.size (v_s ++ z16) + 1 ≤ 1152921504606846976) then elemAt w1 v_i fun z17 => bif List.length z17 == 3 then cellAt (List.drop 2 z17) 0 fun z18 => Aev.asInt i64 z18 fun z19 => x_ref13_Type z19 γ fun z20 => bif decide (ByteArray.size (v_s ++ z16 ++ bs [32]) + ByteArray.size z20 ≤ 1152921504606846976) then x_ref13_Show_L0 (v_s ++ z16 ++ bs [32] ++ z20) (IntKind.wrap i64 (v_i + 1)) w0 w1 w2 γ K else none else none else none else none else none else K (Ex.exit 0) v_s v_i w0 w1 w2
theorem e_ref13_Show_L0 (p : Par) (x_ref13_Show_L0 : Ty_ref13_Show_L0) (x_ref13_Type v_s v_i w0 w1 w2) (γ : Type) (K : Ex × Vars → Option γ) : roundK (cfg p) (T_ref13_Show_L0 x_ref13_Type) (L_ref13_Show_L0 x_ref13_Type) 21 0 [AVal.loc 1 0] ([dat (str v_s), dat (int i64 v_i), agg [(str w0, Own.none), (sl w1, Own.none), (sl w2, Own.none)]], []) γ (contL (fun v => P_ref13_Show_L0 x_ref13_Show_L0 noneL3 [AVal.loc 1 0] v γ K) K) = Sp.B_ref13_Show_L0 x_ref13_Show_L0 x_ref13_Type v_s v_i w0 w1 w2 γ (fun e x0 x1 x2 x3 x4 => K (e, ([dat (str x0), dat (int i64 x1), agg [(str x2, Own.none), (sl x3, Own.none), (sl x4, Own.none)]], []))) := by kernel_rfl
def Sp.ref13_Show_L0 : Nat → Ty_ref13_Show_L0
  | 0 => fun _ _ _ _ _ _ _ => none
  | n + 1 => Sp.B_ref13_Show_L0 (Sp.ref13_Show_L0 n) Sp.ref13_Type
theorem E0_ref13_Show_L0 (p : Par)   : ∀ n, EntOkL (cfg p) 21 0 (P_ref13_Show_L0 (Sp.ref13_Show_L0 n) noneL3) := entL_rounds (tab_call (tab_nil _) (E_ref13_Type p (ent_none _ _))) (by kernel_rfl) (fun c v γ K => by unfold P_ref13_Show_L0; split <;> rfl) fun n c v γ K q h => by
  unfold P_ref13_Show_L0 at h
  split at h
  · exact (e_ref13_Show_L0 p _ _ _ _ _ _ _ _ _).trans h
  · cases h
theorem E_ref13_Show_L0 (p : Par)   (n : Nat) {F : Loop3} (hF : EntOkL (cfg p) 21 0 F) : EntOkL (cfg p) 21 0 (P_ref13_Show_L0 (Sp.ref13_Show_L0 n) F) := by
  intro c v γ K q h
  unfold P_ref13_Show_L0 at h
  split at h
  · exact E0_ref13_Show_L0 p n _ _ _ _ _ h
  · exact hF _ _ _ _ _ h
abbrev Ty_ref13_Show : Type 1 := ByteArray → List (List Dat) → List (List Dat) → (γ : Type) → (ByteArray → Option γ) → Option γ
def P_ref13_Show (X : Ty_ref13_Show) (F : Ent3) : Ent3 := fun a s γ K => match a, s with
  | [agg [(str v_t0, Own.none), (sl v_t1, Own.none), (sl v_t2, Own.none)]], [] => X v_t0 v_t1 v_t2 γ (fun r0 => K ([(dat (str r0), Own.none)], []))
  | a, s => F a s γ K
def T_ref13_Show (x_ref13_Show_L0 : Ty_ref13_Show_L0) : CallK := noneK
def L_ref13_Show (x_ref13_Show_L0 : Ty_ref13_Show_L0) : LoopK := (addL noneL 21 0 (P_ref13_Show_L0 x_ref13_Show_L0 noneL3))
def Sp.B_ref13_Show (x_ref13_Show_L0 : Ty_ref13_Show_L0) (v_t0 : ByteArray) (v_t1 v_t2 : List (List Dat)) (γ : Type) (K : ByteArray → Option γ) : Option γ := bif decide (ByteArray.size v_t0 + 1 ≤ 1152921504606846976) then x_ref13_Show_L0 (v_t0 ++ bs [40]) 0 v_t0 v_t1 v_t2 γ fun z5 z6 z7 z8 z9 z10 => bif Ex.isExit z5 0 then bif decide (ByteArray.size z6 + 1 ≤ 1152921504606846976) then K (z6 ++ bs [41]) else none else bif Ex.isRet z5 then none else none else none
theorem e_ref13_Show (p : Par) (x_ref13_Show_L0 v_t0 v_t1 v_t2) (γ : Type) (K : List Ent × Sig → Option γ) : evFK (cfg p) (T_ref13_Show x_ref13_Show_L0) (L_ref13_Show x_ref13_Show_L0) 21 [agg [(str v_t0, Own.none), (sl v_t1, Own.none), (sl v_t2, Own.none)]] [] γ K = Sp.B_ref13_Show x_ref13_Show_L0 v_t0 v_t1 v_t2 γ (fun r0 => K ([(dat (str r0), Own.none)], [])) := by kernel_rfl
def Sp.ref13_Show : Ty_ref13_Show := Sp.B_ref13_Show (Sp.ref13_Show_L0 fuel)
theorem E_ref13_Show (p : Par) {F : Ent3} (hF : EntOk (cfg p) 21 F) : EntOk (cfg p) 21 (P_ref13_Show Sp.ref13_Show F) := by
  intro a s γ K q h
  unfold P_ref13_Show at h
  split at h
  · exact body_ok (tab_loop (tab_nil _) (E_ref13_Show_L0 p fuel (entL_none _ _ _))) rfl ((e_ref13_Show p _ _ _ _ _ _).trans h)
  · exact hF _ _ _ _ _ h
abbrev Ty_law13_CatalogTables : Type 1 := ByteArray → List (List Dat) → List (List Dat) → ByteArray → List (List Dat) → List (List Dat) → ByteArray → List (List Dat) → (γ : Type) → (Bool → Option γ) → Option γ
def P_law13_CatalogTables (X : Ty_law13_CatalogTables) (F : Ent3) : Ent3 := fun a s γ K => match a, s with
  | [agg [(str v_t0, Own.none), (sl v_t1, Own.none), (sl v_t2, Own.none)], agg [(str v_u0, Own.none), (sl v_u1, Own.none), (sl v_u2, Own.none)], dat (str v_as), dat (sl v_r)], [] => X v_t0 v_t1 v_t2 v_u0 v_u1 v_u2 v_as v_r γ (fun r0 => K ([(dat (Dat.bool r0), Own.none)], []))
  | a, s => F a s γ K
def T_law13_CatalogTables (x_ref13_Large : Ty_ref13_Large) (x_law13_lives : Ty_law13_lives) (x_catalog_Columns : Ty_catalog_Columns) (x_ref13_Columns : Ty_ref13_Columns) (x_ref13_SameColumns : Ty_ref13_SameColumns) (x_catalog_Show : Ty_catalog_Show) (x_ref13_Show : Ty_ref13_Show) (x_catalog_Fits : Ty_catalog_Fits) (x_ref13_Fits : Ty_ref13_Fits) (x_catalog_Same : Ty_catalog_Same) (x_ref13_Same : Ty_ref13_Same) : CallK := (addK (addK (addK (addK (addK (addK (addK (addK (addK (addK (addK noneK 8 (P_ref13_Large x_ref13_Large none3)) 9 (P_law13_lives x_law13_lives none3)) 18 (P_catalog_Columns x_catalog_Columns none3)) 19 (P_ref13_Columns x_ref13_Columns none3)) 17 (P_ref13_SameColumns x_ref13_SameColumns none3)) 20 (P_catalog_Show x_catalog_Show none3)) 21 (P_ref13_Show x_ref13_Show none3)) 22 (P_catalog_Fits x_catalog_Fits none3)) 23 (P_ref13_Fits x_ref13_Fits none3)) 24 (P_catalog_Same x_catalog_Same none3)) 16 (P_ref13_Same x_ref13_Same none3))
def L_law13_CatalogTables (x_ref13_Large : Ty_ref13_Large) (x_law13_lives : Ty_law13_lives) (x_catalog_Columns : Ty_catalog_Columns) (x_ref13_Columns : Ty_ref13_Columns) (x_ref13_SameColumns : Ty_ref13_SameColumns) (x_catalog_Show : Ty_catalog_Show) (x_ref13_Show : Ty_ref13_Show) (x_catalog_Fits : Ty_catalog_Fits) (x_ref13_Fits : Ty_ref13_Fits) (x_catalog_Same : Ty_catalog_Same) (x_ref13_Same : Ty_ref13_Same) : LoopK := noneL
def Sp.B_law13_CatalogTables (x_ref13_Large : Ty_ref13_Large) (x_law13_lives : Ty_law13_lives) (x_catalog_Columns : Ty_catalog_Columns) (x_ref13_Columns : Ty_ref13_Columns) (x_ref13_SameColumns : Ty_ref13_SameColumns) (x_catalog_Show : Ty_catalog_Show) (x_ref13_Show : Ty_ref13_Show) (x_catalog_Fits : Ty_catalog_Fits) (x_ref13_Fits : Ty_ref13_Fits) (x_catalog_Same : Ty_catalog_Same) (x_ref13_Same : Ty_ref13_Same) (v_t0 : ByteArray) (v_t1 v_t2 : List (List Dat)) (v_u0 : ByteArray) (v_u1 v_u2 : List (List Dat)) (v_as : ByteArray) (v_r : List (List Dat)) (γ : Type) (K : Bool → Option γ) : Option γ := x_ref13_Large [[str v_t0, sl v_t1, sl v_t2], [str v_u0, sl v_u1, sl v_u2]] γ fun z10 => bif z10 then x_law13_lives γ fun z11 => K z11 else bif decide (1000 < Int.ofNat (ByteArray.size v_as)) then x_law13_lives γ fun z12 => K z12 else bif decide (100 < Int.ofNat (List.length v_r)) then x_law13_lives γ fun z13 => K z13 else x_law13_lives γ fun z14 => bif z14 then x_catalog_Columns v_t0 v_t1 v_t2 v_as γ fun z15 => x_ref13_Columns v_t0 v_t1 v_t2 v_as γ fun z16 => x_ref13_SameColumns z15 z16 γ fun z17 => bif z17 then x_catalog_Show v_t0 v_t1 v_t2 γ fun z18 => x_ref13_Show v_t0 v_t1 v_t2 γ fun z19 => bif decide (z18 = z19) then x_catalog_Fits v_t1 v_r γ fun z20 => x_ref13_Fits v_t1 v_r γ fun z21 => bif z20 == z21 then x_catalog_Same [[str v_t0, sl v_t1, sl v_t2]] [[str v_u0, sl v_u1, sl v_u2]] γ fun z22 => x_ref13_Same [[str v_t0, sl v_t1, sl v_t2]] [[str v_u0, sl v_u1, sl v_u2]] γ fun z23 => K (z22 == z23) else K false else K false else K false else K false
theorem e_law13_CatalogTables (p : Par) (x_ref13_Large x_law13_lives x_catalog_Columns x_ref13_Columns x_ref13_SameColumns x_catalog_Show x_ref13_Show x_catalog_Fits x_ref13_Fits x_catalog_Same x_ref13_Same v_t0 v_t1 v_t2 v_u0 v_u1 v_u2 v_as v_r) (γ : Type) (K : List Ent × Sig → Option γ) : evFK (cfg p) (T_law13_CatalogTables x_ref13_Large x_law13_lives x_catalog_Columns x_ref13_Columns x_ref13_SameColumns x_catalog_Show x_ref13_Show x_catalog_Fits x_ref13_Fits x_catalog_Same x_ref13_Same) (L_law13_CatalogTables x_ref13_Large x_law13_lives x_catalog_Columns x_ref13_Columns x_ref13_SameColumns x_catalog_Show x_ref13_Show x_catalog_Fits x_ref13_Fits x_catalog_Same x_ref13_Same) 4 [agg [(str v_t0, Own.none), (sl v_t1, Own.none), (sl v_t2, Own.none)], agg [(str v_u0, Own.none), (sl v_u1, Own.none), (sl v_u2, Own.none)], dat (str v_as), dat (sl v_r)] [] γ K = Sp.B_law13_CatalogTables x_ref13_Large x_law13_lives x_catalog_Columns x_ref13_Columns x_ref13_SameColumns x_catalog_Show x_ref13_Show x_catalog_Fits x_ref13_Fits x_catalog_Same x_ref13_Same v_t0 v_t1 v_t2 v_u0 v_u1 v_u2 v_as v_r γ (fun r0 => K ([(dat (Dat.bool r0), Own.none)], [])) := by kernel_rfl
def Sp.law13_CatalogTables : Ty_law13_CatalogTables := Sp.B_law13_CatalogTables Sp.ref13_Large Sp.law13_lives Sp.catalog_Columns Sp.ref13_Columns Sp.ref13_SameColumns Sp.catalog_Show Sp.ref13_Show Sp.catalog_Fits Sp.ref13_Fits Sp.catalog_Same Sp.ref13_Same
theorem E_law13_CatalogTables (p : Par) {F : Ent3} (hF : EntOk (cfg p) 4 F) : EntOk (cfg p) 4 (P_law13_CatalogTables Sp.law13_CatalogTables F) := by
  intro a s γ K q h
  unfold P_law13_CatalogTables at h
  split at h
  · exact body_ok (tab_call (tab_call (tab_call (tab_call (tab_call (tab_call (tab_call (tab_call (tab_call (tab_call (tab_call (tab_nil _) (E_ref13_Large p (ent_none _ _))) (E_law13_lives p (ent_none _ _))) (E_catalog_Columns p (ent_none _ _))) (E_ref13_Columns p (ent_none _ _))) (E_ref13_SameColumns p (ent_none _ _))) (E_catalog_Show p (ent_none _ _))) (E_ref13_Show p (ent_none _ _))) (E_catalog_Fits p (ent_none _ _))) (E_ref13_Fits p (ent_none _ _))) (E_catalog_Same p (ent_none _ _))) (E_ref13_Same p (ent_none _ _))) rfl ((e_law13_CatalogTables p _ _ _ _ _ _ _ _ _ _ _ _ _ _ _ _ _ _ _ _ _).trans h)
  · exact hF _ _ _ _ _ h
abbrev Ty_law13_CatalogOrders : Type 1 := ByteArray → List (List Dat) → List (List Dat) → Int → (γ : Type) → (Bool → Option γ) → Option γ
def P_law13_CatalogOrders (X : Ty_law13_CatalogOrders) (F : Ent3) : Ent3 := fun a s γ K => match a, s with
  | [agg [(str v_t0, Own.none), (sl v_t1, Own.none), (sl v_t2, Own.none)], dat (int i64 v_turn)], [] => X v_t0 v_t1 v_t2 v_turn γ (fun r0 => K ([(dat (Dat.bool r0), Own.none)], []))
  | a, s => F a s γ K
def T_law13_CatalogOrders (x_ref13_Large : Ty_ref13_Large) (x_law13_lives : Ty_law13_lives) (x_catalog_Same : Ty_catalog_Same) : CallK := (addK (addK (addK noneK 8 (P_ref13_Large x_ref13_Large none3)) 9 (P_law13_lives x_law13_lives none3)) 24 (P_catalog_Same x_catalog_Same none3))
def L_law13_CatalogOrders (x_ref13_Large : Ty_ref13_Large) (x_law13_lives : Ty_law13_lives) (x_catalog_Same : Ty_catalog_Same) : LoopK := noneL
def Sp.B_law13_CatalogOrders (x_ref13_Large : Ty_ref13_Large) (x_law13_lives : Ty_law13_lives) (x_catalog_Same : Ty_catalog_Same) (v_t0 : ByteArray) (v_t1 v_t2 : List (List Dat)) (v_turn : Int) (γ : Type) (K : Bool → Option γ) : Option γ := x_ref13_Large [[str v_t0, sl v_t1, sl v_t2]] γ fun z6 => bif z6 then x_law13_lives γ fun z7 => K z7 else bif decide (0 < Int.ofNat (List.length v_t2)) then bif !decide (Int.ofNat (List.length v_t2) = 0) then bif decide (Int.tmod v_turn (Int.ofNat (List.length v_t2)) < 0) then bif decide (Int.ofNat (List.length v_t2) ≤ Int.ofNat (List.length v_t2)) && true && sized v_t2 1 then bif sized (List.drop 0 (List.take (Int.toNat (Int.ofNat (List.length v_t2))) v_t2)) 1 && true && decide ((0 + List.length (List.drop 0 (List.take (Int.toNat (Int.ofNat (List.length v_t2))) v_t2))) * 25 ≤ 70368744177664) && true then bif sized ([] ++ List.drop 0 (List.take (Int.toNat (Int.ofNat (List.length v_t2))) v_t2)) 1 && true && true && decide ((List.length ([] ++ List.drop 0 (List.take (Int.toNat (Int.ofNat (List.length v_t2))) v_t2)) + 0) * 25 ≤ 70368744177664) && true then x_law13_lives γ fun z8 => bif z8 then x_catalog_Same [[str v_t0, sl v_t1, sl v_t2]] [[str v_t0, sl v_t1, sl ([] ++ List.drop 0 (List.take (Int.toNat (Int.ofNat (List.length v_t2))) v_t2) ++ [])]] γ fun z9 => K z9 else K false else none else none else none else bif decide (0 ≤ Int.tmod v_turn (Int.ofNat (List.length v_t2))) && decide (Int.tmod v_turn (Int.ofNat (List.length v_t2)) ≤ Int.ofNat (List.length v_t2)) && decide (Int.ofNat (List.length v_t2) ≤ Int.ofNat (List.length v_t2)) && true && sized v_t2 1 then bif sized (List.drop (Int.toNat (Int.tmod v_turn (Int.ofNat (List.length v_t2)))) (List.take (Int.toNat (Int.ofNat (List.length v_t2))) v_t2)) 1 && true && decide ((0 + List.length (List.drop (Int.toNat (Int.tmod v_turn (Int.ofNat (List.length v_t2)))) (List.take (Int.toNat (Int.ofNat (List.length v_t2))) v_t2))) * 25 ≤ 70368744177664) && true then bif decide (0 ≤ Int.tmod v_turn (Int.ofNat (List.length v_t2))) && decide (Int.tmod v_turn (Int.ofNat (List.length v_t2)) ≤ Int.ofNat (List.length v_t2)) && true && true then bif sized ([] ++ List.drop (Int.toNat (Int.tmod v_turn (Int.ofNat (List.length v_t2)))) (List.take (Int.toNat (Int.ofNat (List.length v_t2))) v_t2)) 1 && sized (List.drop 0 (List.take (Int.toNat (Int.tmod v_turn (Int.ofNat (List.length v_t2)))) v_t2)) 1 && true && decide ((List.length ([] ++ List.drop (Int.toNat (Int.tmod v_turn (Int.ofNat (List.length v_t2)))) (List.take (Int.toNat (Int.ofNat (List.length v_t2))) v_t2)) + List.length (List.drop 0 (List.take (Int.toNat (Int.tmod v_turn (Int.ofNat (List.length v_t2)))) v_t2))) * 25 ≤ 70368744177664) && true then x_law13_lives γ fun z10 => bif z10 then x_catalog_Same [[str v_t0, sl v_t1, sl v_t2]] [[str v_t0, sl v_t1, sl ([] ++ List.drop (Int.toNat (Int.tmod v_turn (Int.ofNat (List.length v_t2)))) (List.take (Int.toNat (Int.ofNat (List.length v_t2))) v_t2) ++ List.drop 0 (List.take (Int.toNat (Int.tmod v_turn (Int.ofNat (List.length v_t2)))) v_t2))]] γ fun z11 => K z11 else K false else none else none else none else none else none else bif decide (Int.ofNat (List.length v_t2) ≤ Int.ofNat (List.length v_t2)) && true && sized v_t2 1 then bif sized (List.drop 0 (List.take (Int.toNat (Int.ofNat (List.length v_t2))) v_t2)) 1 && true && decide ((0 + List.length (List.drop 0 (List.take (Int.toNat (Int.ofNat (List.length v_t2))) v_t2))) * 25 ≤ 70368744177664) && true then bif sized ([] ++ List.drop 0 (List.take (Int.toNat (Int.ofNat (List.length v_t2))) v_t2)) 1 && true && true && decide ((List.length ([] ++ List.drop 0 (List.take (Int.toNat (Int.ofNat (List.length v_t2))) v_t2)) + 0) * 25 ≤ 70368744177664) && true then x_law13_lives γ fun z12 => bif z12 then x_catalog_Same [[str v_t0, sl v_t1, sl v_t2]] [[str v_t0, sl v_t1, sl ([] ++ List.drop 0 (List.take (Int.toNat (Int.ofNat (List.length v_t2))) v_t2) ++ [])]] γ fun z13 => K z13 else K false else none else none else none
theorem e_law13_CatalogOrders (p : Par) (x_ref13_Large x_law13_lives x_catalog_Same v_t0 v_t1 v_t2 v_turn) (γ : Type) (K : List Ent × Sig → Option γ) : evFK (cfg p) (T_law13_CatalogOrders x_ref13_Large x_law13_lives x_catalog_Same) (L_law13_CatalogOrders x_ref13_Large x_law13_lives x_catalog_Same) 6 [agg [(str v_t0, Own.none), (sl v_t1, Own.none), (sl v_t2, Own.none)], dat (int i64 v_turn)] [] γ K = Sp.B_law13_CatalogOrders x_ref13_Large x_law13_lives x_catalog_Same v_t0 v_t1 v_t2 v_turn γ (fun r0 => K ([(dat (Dat.bool r0), Own.none)], [])) := by kernel_rfl
def Sp.law13_CatalogOrders : Ty_law13_CatalogOrders := Sp.B_law13_CatalogOrders Sp.ref13_Large Sp.law13_lives Sp.catalog_Same
theorem E_law13_CatalogOrders (p : Par) {F : Ent3} (hF : EntOk (cfg p) 6 F) : EntOk (cfg p) 6 (P_law13_CatalogOrders Sp.law13_CatalogOrders F) := by
  intro a s γ K q h
  unfold P_law13_CatalogOrders at h
  split at h
  · exact body_ok (tab_call (tab_call (tab_call (tab_nil _) (E_ref13_Large p (ent_none _ _))) (E_law13_lives p (ent_none _ _))) (E_catalog_Same p (ent_none _ _))) rfl ((e_law13_CatalogOrders p _ _ _ _ _ _ _ _ _).trans h)
  · exact hF _ _ _ _ _ h
abbrev Ty_law13_CatalogAdds : Type 1 := List (List Dat) → ByteArray → List (List Dat) → List (List Dat) → (γ : Type) → (Bool → Option γ) → Option γ
def P_law13_CatalogAdds (X : Ty_law13_CatalogAdds) (F : Ent3) : Ent3 := fun a s γ K => match a, s with
  | [dat (sl v_c), agg [(str v_t0, Own.none), (sl v_t1, Own.none), (sl v_t2, Own.none)]], [] => X v_c v_t0 v_t1 v_t2 γ (fun r0 => K ([(dat (Dat.bool r0), Own.none)], []))
  | a, s => F a s γ K
def T_law13_CatalogAdds (x_ref13_Large : Ty_ref13_Large) (x_law13_lives : Ty_law13_lives) (x_ref13_Check : Ty_ref13_Check) (x_catalog_Check : Ty_catalog_Check) (x_catalog_Find : Ty_catalog_Find) (x_catalog_Table : Ty_catalog_Table) : CallK := (addK (addK (addK (addK (addK (addK noneK 8 (P_ref13_Large x_ref13_Large none3)) 9 (P_law13_lives x_law13_lives none3)) 10 (P_ref13_Check x_ref13_Check none3)) 13 (P_catalog_Check x_catalog_Check none3)) 11 (P_catalog_Find x_catalog_Find none3)) 14 (P_catalog_Table x_catalog_Table none3))
def L_law13_CatalogAdds (x_ref13_Large : Ty_ref13_Large) (x_law13_lives : Ty_law13_lives) (x_ref13_Check : Ty_ref13_Check) (x_catalog_Check : Ty_catalog_Check) (x_catalog_Find : Ty_catalog_Find) (x_catalog_Table : Ty_catalog_Table) : LoopK := noneL
def Sp.B_law13_CatalogAdds (x_ref13_Large : Ty_ref13_Large) (x_law13_lives : Ty_law13_lives) (x_ref13_Check : Ty_ref13_Check) (x_catalog_Check : Ty_catalog_Check) (x_catalog_Find : Ty_catalog_Find) (x_catalog_Table : Ty_catalog_Table) (v_c : List (List Dat)) (v_t0 : ByteArray) (v_t1 v_t2 : List (List Dat)) (γ : Type) (K : Bool → Option γ) : Option γ := x_ref13_Large v_c γ fun z6 => bif z6 then x_law13_lives γ fun z7 => K z7 else x_ref13_Large [[str v_t0, sl v_t1, sl v_t2]] γ fun z8 => bif z8 then x_law13_lives γ fun z9 => K z9 else x_ref13_Check v_c γ fun z10 => bif !z10 then x_law13_lives γ fun z11 => K z11 else bif sized v_c 3 && true && decide ((0 + List.length v_c) * 65 ≤ 70368744177664) && true then bif sized ([] ++ v_c) 3 && true && true && decide ((List.length ([] ++ v_c) + 1) * 65 ≤ 70368744177664) && true then x_catalog_Check ([] ++ v_c ++ [[str v_t0, sl v_t1, sl v_t2]]) γ fun z12 => x_catalog_Find v_c v_t0 γ fun z13 z14 z15 z16 => x_law13_lives γ fun z17 => bif z17 then x_catalog_Table v_t0 v_t1 v_t2 γ fun z18 => bif decide (z18 = 0) then bif !z16 then bif decide (z12 = 0) == decide (Int.ofNat (List.length v_c) < 16) then bif decide (z12 = 0) then K true else K (decide (z12 = 130)) else K false else bif decide (z12 = 0) == false then bif decide (z12 = 0) then K true else K (decide (z12 = 130)) else K false else bif decide (z12 = 0) == false then bif decide (z12 = 0) then K true else K (decide (z12 = 130)) else K false else K false else none else none
theorem e_law13_CatalogAdds (p : Par) (x_ref13_Large x_law13_lives x_ref13_Check x_catalog_Check x_catalog_Find x_catalog_Table v_c v_t0 v_t1 v_t2) (γ : Type) (K : List Ent × Sig → Option γ) : evFK (cfg p) (T_law13_CatalogAdds x_ref13_Large x_law13_lives x_ref13_Check x_catalog_Check x_catalog_Find x_catalog_Table) (L_law13_CatalogAdds x_ref13_Large x_law13_lives x_ref13_Check x_catalog_Check x_catalog_Find x_catalog_Table) 7 [dat (sl v_c), agg [(str v_t0, Own.none), (sl v_t1, Own.none), (sl v_t2, Own.none)]] [] γ K = Sp.B_law13_CatalogAdds x_ref13_Large x_law13_lives x_ref13_Check x_catalog_Check x_catalog_Find x_catalog_Table v_c v_t0 v_t1 v_t2 γ (fun r0 => K ([(dat (Dat.bool r0), Own.none)], [])) := by kernel_rfl
def Sp.law13_CatalogAdds : Ty_law13_CatalogAdds := Sp.B_law13_CatalogAdds Sp.ref13_Large Sp.law13_lives Sp.ref13_Check Sp.catalog_Check Sp.catalog_Find Sp.catalog_Table
theorem E_law13_CatalogAdds (p : Par) {F : Ent3} (hF : EntOk (cfg p) 7 F) : EntOk (cfg p) 7 (P_law13_CatalogAdds Sp.law13_CatalogAdds F) := by
  intro a s γ K q h
  unfold P_law13_CatalogAdds at h
  split at h
  · exact body_ok (tab_call (tab_call (tab_call (tab_call (tab_call (tab_call (tab_nil _) (E_ref13_Large p (ent_none _ _))) (E_law13_lives p (ent_none _ _))) (E_ref13_Check p (ent_none _ _))) (E_catalog_Check p (ent_none _ _))) (E_catalog_Find p (ent_none _ _))) (E_catalog_Table p (ent_none _ _))) rfl ((e_law13_CatalogAdds p _ _ _ _ _ _ _ _ _ _ _ _).trans h)
  · exact hF _ _ _ _ _ h
end
end Go.Proofs.YtimdilbcijgadaaGreatDoor

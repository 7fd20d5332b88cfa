/- What the functions of this program compute, printed by a program. -/
import Derived.Test.YtcglmokfjohdaaaKD
import Derived.KernelRfl
set_option linter.unusedVariables false
namespace Go.Proofs.Ytcglmokfjohdaaa
open Go Go.Aev Go.RowKit
noncomputable section
abbrev Ty_law02_large_L0 : Type 1 := List (List Dat) → Bool → Int → (γ : Type) → (Ex → Bool → Int → Option γ) → Option γ
def P_law02_large_L0 (X : Ty_law02_large_L0) (F : Loop3) : Loop3 := fun a s γ K => match a, s with
  | [AVal.dat (Dat.sl v_r)], ([AVal.dat (Dat.bool v_), AVal.dat (Dat.int IntKind.i64 v_i)], []) => X v_r v_ v_i γ (fun e x0 x1 => K (e, ([AVal.dat (Dat.bool x0), AVal.dat (Dat.int IntKind.i64 x1)], [])))
  | a, s => F a s γ K
def T_law02_large_L0  : CallK := noneK
def L_law02_large_L0  : LoopK := noneL
def Sp.B_law02_large_L0 (x_law02_large_L0 : Ty_law02_large_L0)  (v_r : List (List Dat)) (v_ : Bool) (v_i : Int) (γ : Type) (K : Ex → Bool → Int → Option γ) : Option γ := bif decide (v_i < Int.ofNat (List.length v_r)) then elemAt v_r v_i fun (z5 : List Dat) => bif List.length z5 == 3 then cellAt (List.drop 2 z5) 0 fun (z6 : Dat) => asStr z6 fun (z7 : ByteArray) => bif decide (200 < Int.ofNat (ByteArray.size z7)) then K Ex.ret true v_i else x_law02_large_L0 v_r v_ (IntKind.wrap IntKind.i64 (v_i + 1)) γ K else none else K (Ex.exit 0) v_ v_i
theorem e_law02_large_L0 (p : Par) (x_law02_large_L0 : Ty_law02_large_L0)  (v_r : List (List Dat)) (v_ : Bool) (v_i : Int) (γ : Type) (K : Ex × Vars → Option γ) : roundK (cfg p) (T_law02_large_L0 ) (L_law02_large_L0 ) 8 0 [AVal.dat (Dat.sl v_r)] ([AVal.dat (Dat.bool v_), AVal.dat (Dat.int IntKind.i64 v_i)], []) γ (contL (fun v => P_law02_large_L0 x_law02_large_L0 noneL3 [AVal.dat (Dat.sl v_r)] v γ K) K) = Sp.B_law02_large_L0 x_law02_large_L0  v_r v_ v_i γ (fun e x0 x1 => K (e, ([AVal.dat (Dat.bool x0), AVal.dat (Dat.int IntKind.i64 x1)], []))) := by kernel_rfl
def Sp.law02_large_L0 : Nat → Ty_law02_large_L0
  | 0 => fun _ _ _ _ _ => none
  | n + 1 => Sp.B_law02_large_L0 (Sp.law02_large_L0 n) 
theorem E0_law02_large_L0 (p : Par)   : ∀ n, EntOkL (cfg p) 8 0 (P_law02_large_L0 (Sp.law02_large_L0  n) noneL3) := entL_rounds (tab_nil _) (by kernel_rfl) (fun c v γ K => by unfold P_law02_large_L0; split <;> rfl) fun n c v γ K q h => by
  unfold P_law02_large_L0 at h
  split at h
  · exact (e_law02_large_L0 p _  _ _ _ _ _).trans h
  · cases h
theorem E_law02_large_L0 (p : Par)   (n : Nat) {F : Loop3} (hF : EntOkL (cfg p) 8 0 F) : EntOkL (cfg p) 8 0 (P_law02_large_L0 (Sp.law02_large_L0  n) F) := by
  intro c v γ K q h
  unfold P_law02_large_L0 at h
  split at h
  · exact E0_law02_large_L0 p   n _ _ _ _ _ h
  · exact hF _ _ _ _ _ h
abbrev Ty_law02_large : Type 1 := List (List Dat) → (γ : Type) → (Bool → Option γ) → Option γ
def P_law02_large (X : Ty_law02_large) (F : Ent3) : Ent3 := fun a s γ K => match a, s with
  | [AVal.dat (Dat.sl v_r)], [] => X v_r γ (fun r0 => K ([(AVal.dat (Dat.bool r0), Own.none)], []))
  | a, s => F a s γ K
def T_law02_large (x_law02_large_L0 : Ty_law02_large_L0) : CallK := noneK
def L_law02_large (x_law02_large_L0 : Ty_law02_large_L0) : LoopK := (addL noneL 8 0 (P_law02_large_L0 x_law02_large_L0 noneL3))
def Sp.B_law02_large (x_law02_large_L0 : Ty_law02_large_L0) (v_r : List (List Dat)) (γ : Type) (K : Bool → Option γ) : Option γ := bif decide (100 < Int.ofNat (List.length v_r)) then K true else x_law02_large_L0 v_r false 0 γ fun (z3 : Ex) (z4 : Bool) (z5 : Int) => bif Ex.isExit z3 0 then K false else bif Ex.isRet z3 then K z4 else none
theorem e_law02_large (p : Par) (x_law02_large_L0 : Ty_law02_large_L0) (v_r : List (List Dat)) (γ : Type) (K : List Ent × Sig → Option γ) : evFK (cfg p) (T_law02_large x_law02_large_L0) (L_law02_large x_law02_large_L0) 8 [AVal.dat (Dat.sl v_r)] [] γ K = Sp.B_law02_large x_law02_large_L0 v_r γ (fun r0 => K ([(AVal.dat (Dat.bool r0), Own.none)], [])) := by kernel_rfl
def Sp.law02_large : Ty_law02_large := Sp.B_law02_large (Sp.law02_large_L0 fuel)
theorem E_law02_large (p : Par) {F : Ent3} (hF : EntOk (cfg p) 8 F) : EntOk (cfg p) 8 (P_law02_large Sp.law02_large F) := by
  intro a s γ K q h
  unfold P_law02_large at h
  split at h
  · exact body_ok (tab_loop (tab_nil _) (E_law02_large_L0 p fuel (entL_none _ _ _))) rfl ((e_law02_large p _ _ _ _).trans h)
  · exact hF _ _ _ _ _ h
abbrev Ty_ref01_Int : Type 1 := Int → (γ : Type) → (Int → Int → ByteArray → Option γ) → Option γ
def P_ref01_Int (X : Ty_ref01_Int) (F : Ent3) : Ent3 := fun a s γ K => match a, s with
  | [AVal.dat (Dat.int IntKind.i64 v_n)], [] => X v_n γ (fun r0 r1 r2 => K ([(AVal.agg [(Dat.int IntKind.i64 r0, Own.none), (Dat.int IntKind.i64 r1, Own.none), (Dat.str r2, Own.none)], Own.none)], []))
  | a, s => F a s γ K
def T_ref01_Int  : CallK := noneK
def L_ref01_Int  : LoopK := noneL
def Sp.B_ref01_Int  (v_n : Int) (γ : Type) (K : Int → Int → ByteArray → Option γ) : Option γ := K 2 v_n (bs [])
theorem e_ref01_Int (p : Par)  (v_n : Int) (γ : Type) (K : List Ent × Sig → Option γ) : evFK (cfg p) (T_ref01_Int ) (L_ref01_Int ) 30 [AVal.dat (Dat.int IntKind.i64 v_n)] [] γ K = Sp.B_ref01_Int  v_n γ (fun r0 r1 r2 => K ([(AVal.agg [(Dat.int IntKind.i64 r0, Own.none), (Dat.int IntKind.i64 r1, Own.none), (Dat.str r2, Own.none)], Own.none)], [])) := by kernel_rfl
def Sp.ref01_Int : Ty_ref01_Int := Sp.B_ref01_Int 
theorem E_ref01_Int (p : Par) {F : Ent3} (hF : EntOk (cfg p) 30 F) : EntOk (cfg p) 30 (P_ref01_Int Sp.ref01_Int F) := by
  intro a s γ K q h
  unfold P_ref01_Int at h
  split at h
  · exact body_ok (tab_nil _) rfl ((e_ref01_Int p  _ _ _).trans h)
  · exact hF _ _ _ _ _ h
abbrev Ty_value_Check : Type 1 := Int → Int → ByteArray → (γ : Type) → (Int → Option γ) → Option γ
def P_value_Check (X : Ty_value_Check) (F : Ent3) : Ent3 := fun a s γ K => match a, s with
  | [AVal.agg [(Dat.int IntKind.i64 v_v0, Own.none), (Dat.int IntKind.i64 v_v1, Own.none), (Dat.str v_v2, Own.none)]], [] => X v_v0 v_v1 v_v2 γ (fun r0 => K ([(AVal.dat (Dat.int IntKind.i64 r0), Own.none)], []))
  | a, s => F a s γ K
def T_value_Check  : CallK := noneK
def L_value_Check  : LoopK := noneL
def Sp.B_value_Check  (v_v0 : Int) (v_v1 : Int) (v_v2 : ByteArray) (γ : Type) (K : Int → Option γ) : Option γ := bif decide (v_v0 = 0) then bif !(decide (v_v0 = 0) && (decide (v_v1 = 0) && (decide (v_v2 = bs []) && true))) then K 10 else K 0 else bif decide (v_v0 = 1) then bif decide (Int.fdiv v_v1 2 = 0) then bif !decide (v_v2 = bs []) then K 10 else K 0 else K 10 else bif decide (v_v0 = 2) then bif decide (-9007199254740991 ≤ v_v1) then bif decide (v_v1 ≤ 9007199254740991) then bif !decide (v_v2 = bs []) then K 10 else K 0 else K 10 else K 10 else bif decide (v_v0 = 3) then bif decide (v_v1 = 0) then bif !decide (Int.ofNat (ByteArray.size v_v2) ≤ 64) then K 10 else K 0 else K 10 else K 10
theorem e_value_Check (p : Par)  (v_v0 : Int) (v_v1 : Int) (v_v2 : ByteArray) (γ : Type) (K : List Ent × Sig → Option γ) : evFK (cfg p) (T_value_Check ) (L_value_Check ) 34 [AVal.agg [(Dat.int IntKind.i64 v_v0, Own.none), (Dat.int IntKind.i64 v_v1, Own.none), (Dat.str v_v2, Own.none)]] [] γ K = Sp.B_value_Check  v_v0 v_v1 v_v2 γ (fun r0 => K ([(AVal.dat (Dat.int IntKind.i64 r0), Own.none)], [])) := by kernel_rfl
def Sp.value_Check : Ty_value_Check := Sp.B_value_Check 
theorem E_value_Check (p : Par) {F : Ent3} (hF : EntOk (cfg p) 34 F) : EntOk (cfg p) 34 (P_value_Check Sp.value_Check F) := by
  intro a s γ K q h
  unfold P_value_Check at h
  split at h
  · exact body_ok (tab_nil _) rfl ((e_value_Check p  _ _ _ _ _).trans h)
  · exact hF _ _ _ _ _ h
abbrev Ty_row_Check_1 : Type 1 := Int → Int → ByteArray → (γ : Type) → (Bool → Option γ) → Option γ
def P_row_Check_1 (X : Ty_row_Check_1) (F : Ent3) : Ent3 := fun a s γ K => match a, s with
  | [AVal.agg [(Dat.int IntKind.i64 v_v0, Own.none), (Dat.int IntKind.i64 v_v1, Own.none), (Dat.str v_v2, Own.none)]], [] => X v_v0 v_v1 v_v2 γ (fun r0 => K ([(AVal.dat (Dat.bool r0), Own.none)], []))
  | a, s => F a s γ K
def T_row_Check_1 (x_value_Check : Ty_value_Check) : CallK := (addK noneK 34 (P_value_Check x_value_Check none3))
def L_row_Check_1 (x_value_Check : Ty_value_Check) : LoopK := noneL
def Sp.B_row_Check_1 (x_value_Check : Ty_value_Check) (v_v0 : Int) (v_v1 : Int) (v_v2 : ByteArray) (γ : Type) (K : Bool → Option γ) : Option γ := x_value_Check v_v0 v_v1 v_v2 γ fun (z5 : Int) => K !decide (z5 = 0)
theorem e_row_Check_1 (p : Par) (x_value_Check : Ty_value_Check) (v_v0 : Int) (v_v1 : Int) (v_v2 : ByteArray) (γ : Type) (K : List Ent × Sig → Option γ) : evFK (cfg p) (T_row_Check_1 x_value_Check) (L_row_Check_1 x_value_Check) 33 [AVal.agg [(Dat.int IntKind.i64 v_v0, Own.none), (Dat.int IntKind.i64 v_v1, Own.none), (Dat.str v_v2, Own.none)]] [] γ K = Sp.B_row_Check_1 x_value_Check v_v0 v_v1 v_v2 γ (fun r0 => K ([(AVal.dat (Dat.bool r0), Own.none)], [])) := by kernel_rfl
def Sp.row_Check_1 : Ty_row_Check_1 := Sp.B_row_Check_1 Sp.value_Check
theorem E_row_Check_1 (p : Par) {F : Ent3} (hF : EntOk (cfg p) 33 F) : EntOk (cfg p) 33 (P_row_Check_1 Sp.row_Check_1 F) := by
  intro a s γ K q h
  unfold P_row_Check_1 at h
  split at h
  · exact body_ok (tab_call (tab_nil _) (E_value_Check p (ent_none _ _))) rfl ((e_row_Check_1 p _ _ _ _ _ _).trans h)
  · exact hF _ _ _ _ _ h
abbrev Ty_slices_IndexFunc_api_Value_api_Value_L0 : Type 1 := List (List Dat) → Int → Int → Int → (γ : Type) → (Ex → Int → Int → Option γ) → Option γ
def P_slices_IndexFunc_api_Value_api_Value_L0 (X : Ty_slices_IndexFunc_api_Value_api_Value_L0) (F : Loop3) : Loop3 := fun a s γ K => match a, s with
  | [AVal.dat (Dat.sl v_s), AVal.clo (Fn.func 33) [] [], AVal.dat (Dat.int IntKind.i64 v_)], ([AVal.dat (Dat.int IntKind.i64 v__1), AVal.dat (Dat.int IntKind.i64 v__2)], []) => X v_s v_ v__1 v__2 γ (fun e x0 x1 => K (e, ([AVal.dat (Dat.int IntKind.i64 x0), AVal.dat (Dat.int IntKind.i64 x1)], [])))
  | a, s => F a s γ K
def T_slices_IndexFunc_api_Value_api_Value_L0 (x_row_Check_1 : Ty_row_Check_1) : CallK := (addK noneK 33 (P_row_Check_1 x_row_Check_1 none3))
def L_slices_IndexFunc_api_Value_api_Value_L0 (x_row_Check_1 : Ty_row_Check_1) : LoopK := noneL
def Sp.B_slices_IndexFunc_api_Value_api_Value_L0 (x_slices_IndexFunc_api_Value_api_Value_L0 : Ty_slices_IndexFunc_api_Value_api_Value_L0) (x_row_Check_1 : Ty_row_Check_1) (v_s : List (List Dat)) (v_ : Int) (v__1 : Int) (v__2 : Int) (γ : Type) (K : Ex → Int → Int → Option γ) : Option γ := bif decide (v__2 < v_) then elemAt v_s v__2 fun (z6 : List Dat) => bif List.length z6 == 3 then cellAt z6 0 fun (z7 : Dat) => Aev.asInt IntKind.i64 z7 fun (z8 : Int) => cellAt z6 1 fun (z9 : Dat) => Aev.asInt IntKind.i64 z9 fun (z10 : Int) => cellAt z6 2 fun (z11 : Dat) => asStr z11 fun (z12 : ByteArray) => x_row_Check_1 z8 z10 z12 γ fun (z13 : Bool) => bif z13 then K Ex.ret v__2 v__2 else x_slices_IndexFunc_api_Value_api_Value_L0 v_s v_ v__1 (IntKind.wrap IntKind.i64 (v__2 + 1)) γ K else none else K (Ex.exit 0) v__1 v__2
theorem e_slices_IndexFunc_api_Value_api_Value_L0 (p : Par) (x_slices_IndexFunc_api_Value_api_Value_L0 : Ty_slices_IndexFunc_api_Value_api_Value_L0) (x_row_Check_1 : Ty_row_Check_1) (v_s : List (List Dat)) (v_ : Int) (v__1 : Int) (v__2 : Int) (γ : Type) (K : Ex × Vars → Option γ) : roundK (cfg p) (T_slices_IndexFunc_api_Value_api_Value_L0 x_row_Check_1) (L_slices_IndexFunc_api_Value_api_Value_L0 x_row_Check_1) 52 0 [AVal.dat (Dat.sl v_s), AVal.clo (Fn.func 33) [] [], AVal.dat (Dat.int IntKind.i64 v_)] ([AVal.dat (Dat.int IntKind.i64 v__1), AVal.dat (Dat.int IntKind.i64 v__2)], []) γ (contL (fun v => P_slices_IndexFunc_api_Value_api_Value_L0 x_slices_IndexFunc_api_Value_api_Value_L0 noneL3 [AVal.dat (Dat.sl v_s), AVal.clo (Fn.func 33) [] [], AVal.dat (Dat.int IntKind.i64 v_)] v γ K) K) = Sp.B_slices_IndexFunc_api_Value_api_Value_L0 x_slices_IndexFunc_api_Value_api_Value_L0 x_row_Check_1 v_s v_ v__1 v__2 γ (fun e x0 x1 => K (e, ([AVal.dat (Dat.int IntKind.i64 x0), AVal.dat (Dat.int IntKind.i64 x1)], []))) := by kernel_rfl
def Sp.slices_IndexFunc_api_Value_api_Value_L0 : Nat → Ty_slices_IndexFunc_api_Value_api_Value_L0
  | 0 => fun _ _ _ _ _ _ => none
  | n + 1 => Sp.B_slices_IndexFunc_api_Value_api_Value_L0 (Sp.slices_IndexFunc_api_Value_api_Value_L0 n) Sp.row_Check_1
theorem E0_slices_IndexFunc_api_Value_api_Value_L0 (p : Par)   : ∀ n, EntOkL (cfg p) 52 0 (P_slices_IndexFunc_api_Value_api_Value_L0 (Sp.slices_IndexFunc_api_Value_api_Value_L0  n) noneL3) := entL_rounds (tab_call (tab_nil _) (E_row_Check_1 p (ent_none _ _))) (by kernel_rfl) (fun c v γ K => by unfold P_slices_IndexFunc_api_Value_api_Value_L0; split <;> rfl) fun n c v γ K q h => by
  unfold P_slices_IndexFunc_api_Value_api_Value_L0 at h
  split at h
  · exact (e_slices_IndexFunc_api_Value_api_Value_L0 p _ _ _ _ _ _ _ _).trans h
  · cases h
theorem E_slices_IndexFunc_api_Value_api_Value_L0 (p : Par)   (n : Nat) {F : Loop3} (hF : EntOkL (cfg p) 52 0 F) : EntOkL (cfg p) 52 0 (P_slices_IndexFunc_api_Value_api_Value_L0 (Sp.slices_IndexFunc_api_Value_api_Value_L0  n) F) := by
  intro c v γ K q h
  unfold P_slices_IndexFunc_api_Value_api_Value_L0 at h
  split at h
  · exact E0_slices_IndexFunc_api_Value_api_Value_L0 p   n _ _ _ _ _ h
  · exact hF _ _ _ _ _ h
abbrev Ty_slices_IndexFunc_api_Value_api_Value : Type 1 := List (List Dat) → (γ : Type) → (Int → Option γ) → Option γ
def P_slices_IndexFunc_api_Value_api_Value (X : Ty_slices_IndexFunc_api_Value_api_Value) (F : Ent3) : Ent3 := fun a s γ K => match a, s with
  | [AVal.dat (Dat.sl v_s), AVal.clo (Fn.func 33) [] []], [] => X v_s γ (fun r0 => K ([(AVal.dat (Dat.int IntKind.i64 r0), Own.none)], []))
  | a, s => F a s γ K
def T_slices_IndexFunc_api_Value_api_Value (x_slices_IndexFunc_api_Value_api_Value_L0 : Ty_slices_IndexFunc_api_Value_api_Value_L0) : CallK := noneK
def L_slices_IndexFunc_api_Value_api_Value (x_slices_IndexFunc_api_Value_api_Value_L0 : Ty_slices_IndexFunc_api_Value_api_Value_L0) : LoopK := (addL noneL 52 0 (P_slices_IndexFunc_api_Value_api_Value_L0 x_slices_IndexFunc_api_Value_api_Value_L0 noneL3))
def Sp.B_slices_IndexFunc_api_Value_api_Value (x_slices_IndexFunc_api_Value_api_Value_L0 : Ty_slices_IndexFunc_api_Value_api_Value_L0) (v_s : List (List Dat)) (γ : Type) (K : Int → Option γ) : Option γ := x_slices_IndexFunc_api_Value_api_Value_L0 v_s (Int.ofNat (List.length v_s)) 0 0 γ fun (z3 : Ex) (z4 z5 : Int) => bif Ex.isExit z3 0 then K (-1) else bif Ex.isRet z3 then K z4 else none
theorem e_slices_IndexFunc_api_Value_api_Value (p : Par) (x_slices_IndexFunc_api_Value_api_Value_L0 : Ty_slices_IndexFunc_api_Value_api_Value_L0) (v_s : List (List Dat)) (γ : Type) (K : List Ent × Sig → Option γ) : evFK (cfg p) (T_slices_IndexFunc_api_Value_api_Value x_slices_IndexFunc_api_Value_api_Value_L0) (L_slices_IndexFunc_api_Value_api_Value x_slices_IndexFunc_api_Value_api_Value_L0) 52 [AVal.dat (Dat.sl v_s), AVal.clo (Fn.func 33) [] []] [] γ K = Sp.B_slices_IndexFunc_api_Value_api_Value x_slices_IndexFunc_api_Value_api_Value_L0 v_s γ (fun r0 => K ([(AVal.dat (Dat.int IntKind.i64 r0), Own.none)], [])) := by kernel_rfl
def Sp.slices_IndexFunc_api_Value_api_Value : Ty_slices_IndexFunc_api_Value_api_Value := Sp.B_slices_IndexFunc_api_Value_api_Value (Sp.slices_IndexFunc_api_Value_api_Value_L0 fuel)
theorem E_slices_IndexFunc_api_Value_api_Value (p : Par) {F : Ent3} (hF : EntOk (cfg p) 52 F) : EntOk (cfg p) 52 (P_slices_IndexFunc_api_Value_api_Value Sp.slices_IndexFunc_api_Value_api_Value F) := by
  intro a s γ K q h
  unfold P_slices_IndexFunc_api_Value_api_Value at h
  split at h
  · exact body_ok (tab_loop (tab_nil _) (E_slices_IndexFunc_api_Value_api_Value_L0 p fuel (entL_none _ _ _))) rfl ((e_slices_IndexFunc_api_Value_api_Value p _ _ _ _).trans h)
  · exact hF _ _ _ _ _ h
abbrev Ty_slices_ContainsFunc_api_Value_api_Value : Type 1 := List (List Dat) → (γ : Type) → (Bool → Option γ) → Option γ
def P_slices_ContainsFunc_api_Value_api_Value (X : Ty_slices_ContainsFunc_api_Value_api_Value) (F : Ent3) : Ent3 := fun a s γ K => match a, s with
  | [AVal.dat (Dat.sl v_s), AVal.clo (Fn.func 33) [] []], [] => X v_s γ (fun r0 => K ([(AVal.dat (Dat.bool r0), Own.none)], []))
  | a, s => F a s γ K
def T_slices_ContainsFunc_api_Value_api_Value (x_slices_IndexFunc_api_Value_api_Value : Ty_slices_IndexFunc_api_Value_api_Value) : CallK := (addK noneK 52 (P_slices_IndexFunc_api_Value_api_Value x_slices_IndexFunc_api_Value_api_Value none3))
def L_slices_ContainsFunc_api_Value_api_Value (x_slices_IndexFunc_api_Value_api_Value : Ty_slices_IndexFunc_api_Value_api_Value) : LoopK := noneL
def Sp.B_slices_ContainsFunc_api_Value_api_Value (x_slices_IndexFunc_api_Value_api_Value : Ty_slices_IndexFunc_api_Value_api_Value) (v_s : List (List Dat)) (γ : Type) (K : Bool → Option γ) : Option γ := x_slices_IndexFunc_api_Value_api_Value v_s γ fun (z3 : Int) => K (decide (0 ≤ z3))
theorem e_slices_ContainsFunc_api_Value_api_Value (p : Par) (x_slices_IndexFunc_api_Value_api_Value : Ty_slices_IndexFunc_api_Value_api_Value) (v_s : List (List Dat)) (γ : Type) (K : List Ent × Sig → Option γ) : evFK (cfg p) (T_slices_ContainsFunc_api_Value_api_Value x_slices_IndexFunc_api_Value_api_Value) (L_slices_ContainsFunc_api_Value_api_Value x_slices_IndexFunc_api_Value_api_Value) 35 [AVal.dat (Dat.sl v_s), AVal.clo (Fn.func 33) [] []] [] γ K = Sp.B_slices_ContainsFunc_api_Value_api_Value x_slices_IndexFunc_api_Value_api_Value v_s γ (fun r0 => K ([(AVal.dat (Dat.bool r0), Own.none)], [])) := by kernel_rfl
def Sp.slices_ContainsFunc_api_Value_api_Value : Ty_slices_ContainsFunc_api_Value_api_Value := Sp.B_slices_ContainsFunc_api_Value_api_Value Sp.slices_IndexFunc_api_Value_api_Value
theorem E_slices_ContainsFunc_api_Value_api_Value (p : Par) {F : Ent3} (hF : EntOk (cfg p) 35 F) : EntOk (cfg p) 35 (P_slices_ContainsFunc_api_Value_api_Value Sp.slices_ContainsFunc_api_Value_api_Value F) := by
  intro a s γ K q h
  unfold P_slices_ContainsFunc_api_Value_api_Value at h
  split at h
  · exact body_ok (tab_call (tab_nil _) (E_slices_IndexFunc_api_Value_api_Value p (ent_none _ _))) rfl ((e_slices_ContainsFunc_api_Value_api_Value p _ _ _ _).trans h)
  · exact hF _ _ _ _ _ h
abbrev Ty_row_Check : Type 1 := List (List Dat) → (γ : Type) → (Int → Option γ) → Option γ
def P_row_Check (X : Ty_row_Check) (F : Ent3) : Ent3 := fun a s γ K => match a, s with
  | [AVal.dat (Dat.sl v_r)], [] => X v_r γ (fun r0 => K ([(AVal.dat (Dat.int IntKind.i64 r0), Own.none)], []))
  | a, s => F a s γ K
def T_row_Check (x_slices_ContainsFunc_api_Value_api_Value : Ty_slices_ContainsFunc_api_Value_api_Value) : CallK := (addK noneK 35 (P_slices_ContainsFunc_api_Value_api_Value x_slices_ContainsFunc_api_Value_api_Value none3))
def L_row_Check (x_slices_ContainsFunc_api_Value_api_Value : Ty_slices_ContainsFunc_api_Value_api_Value) : LoopK := noneL
def Sp.B_row_Check (x_slices_ContainsFunc_api_Value_api_Value : Ty_slices_ContainsFunc_api_Value_api_Value) (v_r : List (List Dat)) (γ : Type) (K : Int → Option γ) : Option γ := bif decide (32 < Int.ofNat (List.length v_r)) then K 20 else x_slices_ContainsFunc_api_Value_api_Value v_r γ fun (z3 : Bool) => bif z3 then K 20 else K 0
theorem e_row_Check (p : Par) (x_slices_ContainsFunc_api_Value_api_Value : Ty_slices_ContainsFunc_api_Value_api_Value) (v_r : List (List Dat)) (γ : Type) (K : List Ent × Sig → Option γ) : evFK (cfg p) (T_row_Check x_slices_ContainsFunc_api_Value_api_Value) (L_row_Check x_slices_ContainsFunc_api_Value_api_Value) 12 [AVal.dat (Dat.sl v_r)] [] γ K = Sp.B_row_Check x_slices_ContainsFunc_api_Value_api_Value v_r γ (fun r0 => K ([(AVal.dat (Dat.int IntKind.i64 r0), Own.none)], [])) := by kernel_rfl
def Sp.row_Check : Ty_row_Check := Sp.B_row_Check Sp.slices_ContainsFunc_api_Value_api_Value
theorem E_row_Check (p : Par) {F : Ent3} (hF : EntOk (cfg p) 12 F) : EntOk (cfg p) 12 (P_row_Check Sp.row_Check F) := by
  intro a s γ K q h
  unfold P_row_Check at h
  split at h
  · exact body_ok (tab_call (tab_nil _) (E_slices_ContainsFunc_api_Value_api_Value p (ent_none _ _))) rfl ((e_row_Check p _ _ _ _).trans h)
  · exact hF _ _ _ _ _ h
abbrev Ty_row_put_L1 : Type 1 := Int → List (List Dat) → Int → (γ : Type) → (Ex → List (List Dat) → Int → Option γ) → Option γ
def P_row_put_L1 (X : Ty_row_put_L1) (F : Loop3) : Loop3 := fun a s γ K => match a, s with
  | [AVal.dat (Dat.int IntKind.u64 v_n)], ([AVal.dat (Dat.sl v_b), AVal.dat (Dat.int IntKind.i64 v_)], []) => X v_n v_b v_ γ (fun e x0 x1 => K (e, ([AVal.dat (Dat.sl x0), AVal.dat (Dat.int IntKind.i64 x1)], [])))
  | a, s => F a s γ K
def T_row_put_L1  : CallK := noneK
def L_row_put_L1  : LoopK := noneL
def Sp.B_row_put_L1 (x_row_put_L1 : Ty_row_put_L1)  (v_n : Int) (v_b : List (List Dat)) (v_ : Int) (γ : Type) (K : Ex → List (List Dat) → Int → Option γ) : Option γ := bif sized v_b 1 then bif decide (v_ < 7) then bif decide (0 ≤ IntKind.wrap IntKind.i64 (8 * IntKind.wrap IntKind.i64 (6 - v_))) then bif sized v_b 1 && true && true && decide ((List.length v_b + 1) * 2 ≤ 70368744177664) && true then x_row_put_L1 v_n (v_b ++ [[Dat.int IntKind.u8 (IntKind.wrap IntKind.u8 (Int.fdiv v_n (2 ^ min (Int.toNat (IntKind.wrap IntKind.i64 (8 * IntKind.wrap IntKind.i64 (6 - v_)))) 64)))]]) (IntKind.wrap IntKind.i64 (v_ + 1)) γ K else none else none else K (Ex.exit 1) v_b v_ else none
theorem e_row_put_L1 (p : Par) (x_row_put_L1 : Ty_row_put_L1)  (v_n : Int) (v_b : List (List Dat)) (v_ : Int) (γ : Type) (K : Ex × Vars → Option γ) : roundK (cfg p) (T_row_put_L1 ) (L_row_put_L1 ) 31 1 [AVal.dat (Dat.int IntKind.u64 v_n)] ([AVal.dat (Dat.sl v_b), AVal.dat (Dat.int IntKind.i64 v_)], []) γ (contL (fun v => P_row_put_L1 x_row_put_L1 noneL3 [AVal.dat (Dat.int IntKind.u64 v_n)] v γ K) K) = Sp.B_row_put_L1 x_row_put_L1  v_n v_b v_ γ (fun e x0 x1 => K (e, ([AVal.dat (Dat.sl x0), AVal.dat (Dat.int IntKind.i64 x1)], []))) := by kernel_rfl
def Sp.row_put_L1 : Nat → Ty_row_put_L1
  | 0 => fun _ _ _ _ _ => none
  | n + 1 => Sp.B_row_put_L1 (Sp.row_put_L1 n) 
theorem E0_row_put_L1 (p : Par)   : ∀ n, EntOkL (cfg p) 31 1 (P_row_put_L1 (Sp.row_put_L1  n) noneL3) := entL_rounds (tab_nil _) (by kernel_rfl) (fun c v γ K => by unfold P_row_put_L1; split <;> rfl) fun n c v γ K q h => by
  unfold P_row_put_L1 at h
  split at h
  · exact (e_row_put_L1 p _  _ _ _ _ _).trans h
  · cases h
theorem E_row_put_L1 (p : Par)   (n : Nat) {F : Loop3} (hF : EntOkL (cfg p) 31 1 F) : EntOkL (cfg p) 31 1 (P_row_put_L1 (Sp.row_put_L1  n) F) := by
  intro c v γ K q h
  unfold P_row_put_L1 at h
  split at h
  · exact E0_row_put_L1 p   n _ _ _ _ _ h
  · exact hF _ _ _ _ _ h
abbrev Ty_row_put : Type 1 := List (List Dat) → Int → Int → ByteArray → (γ : Type) → (List (List Dat) → Option γ) → Option γ
def P_row_put (X : Ty_row_put) (F : Ent3) : Ent3 := fun a s γ K => match a, s with
  | [AVal.dat (Dat.sl v_b), AVal.agg [(Dat.int IntKind.i64 v_v0, Own.none), (Dat.int IntKind.i64 v_v1, Own.none), (Dat.str v_v2, Own.none)]], [] => X v_b v_v0 v_v1 v_v2 γ (fun r0 => K ([(AVal.dat (Dat.sl r0), Own.id 0 1)], []))
  | a, s => F a s γ K
def T_row_put (x_row_put_L1 : Ty_row_put_L1) : CallK := noneK
def L_row_put (x_row_put_L1 : Ty_row_put_L1) : LoopK := (addL noneL 31 1 (P_row_put_L1 x_row_put_L1 noneL3))
def Sp.B_row_put (x_row_put_L1 : Ty_row_put_L1) (v_b : List (List Dat)) (v_v0 : Int) (v_v1 : Int) (v_v2 : ByteArray) (γ : Type) (K : List (List Dat) → Option γ) : Option γ := bif sized v_b 1 && true && true && decide ((List.length v_b + 1) * 2 ≤ 70368744177664) && true then bif decide (v_v0 = 1) then bif sized (v_b ++ [[Dat.int IntKind.u8 (IntKind.wrap IntKind.u8 v_v0)]]) 1 && true && true && decide ((List.length (v_b ++ [[Dat.int IntKind.u8 (IntKind.wrap IntKind.u8 v_v0)]]) + 1) * 2 ≤ 70368744177664) && true then K (v_b ++ [[Dat.int IntKind.u8 (IntKind.wrap IntKind.u8 v_v0)]] ++ [[Dat.int IntKind.u8 (IntKind.wrap IntKind.u8 v_v1)]]) else none else bif decide (v_v0 = 2) then x_row_put_L1 (IntKind.wrap IntKind.u64 (IntKind.wrap IntKind.i64 (v_v1 + 9007199254740992))) (v_b ++ [[Dat.int IntKind.u8 (IntKind.wrap IntKind.u8 v_v0)]]) 0 γ fun (z6 : Ex) (z7 : List (List Dat)) (z8 : Int) => bif sized z7 1 then bif Ex.isExit z6 1 then K z7 else bif Ex.isRet z6 then none else none else none else bif decide (v_v0 = 3) then bif sized (v_b ++ [[Dat.int IntKind.u8 (IntKind.wrap IntKind.u8 v_v0)]]) 1 && true && true && decide ((List.length (v_b ++ [[Dat.int IntKind.u8 (IntKind.wrap IntKind.u8 v_v0)]]) + 1) * 2 ≤ 70368744177664) && true then bif sized (v_b ++ [[Dat.int IntKind.u8 (IntKind.wrap IntKind.u8 v_v0)]] ++ [[Dat.int IntKind.u8 (IntKind.wrap IntKind.u8 (Int.ofNat (ByteArray.size v_v2)))]]) 1 && sized (bytesEs v_v2) 1 && true && decide ((List.length (v_b ++ [[Dat.int IntKind.u8 (IntKind.wrap IntKind.u8 v_v0)]] ++ [[Dat.int IntKind.u8 (IntKind.wrap IntKind.u8 (Int.ofNat (ByteArray.size v_v2)))]]) + List.length (bytesEs v_v2)) * 2 ≤ 70368744177664) && true then K (v_b ++ [[Dat.int IntKind.u8 (IntKind.wrap IntKind.u8 v_v0)]] ++ [[Dat.int IntKind.u8 (IntKind.wrap IntKind.u8 (Int.ofNat (ByteArray.size v_v2)))]] ++ bytesEs v_v2) else none else none else K (v_b ++ [[Dat.int IntKind.u8 (IntKind.wrap IntKind.u8 v_v0)]]) else none
theorem e_row_put (p : Par) (x_row_put_L1 : Ty_row_put_L1) (v_b : List (List Dat)) (v_v0 : Int) (v_v1 : Int) (v_v2 : ByteArray) (γ : Type) (K : List Ent × Sig → Option γ) : evFK (cfg p) (T_row_put x_row_put_L1) (L_row_put x_row_put_L1) 31 [AVal.dat (Dat.sl v_b), AVal.agg [(Dat.int IntKind.i64 v_v0, Own.none), (Dat.int IntKind.i64 v_v1, Own.none), (Dat.str v_v2, Own.none)]] [] γ K = Sp.B_row_put x_row_put_L1 v_b v_v0 v_v1 v_v2 γ (fun r0 => K ([(AVal.dat (Dat.sl r0), Own.id 0 1)], [])) := by kernel_rfl
def Sp.row_put : Ty_row_put := Sp.B_row_put (Sp.row_put_L1 fuel)
theorem E_row_put (p : Par) {F : Ent3} (hF : EntOk (cfg p) 31 F) : EntOk (cfg p) 31 (P_row_put Sp.row_put F) := by
  intro a s γ K q h
  unfold P_row_put at h
  split at h
  · exact body_ok (tab_loop (tab_nil _) (E_row_put_L1 p fuel (entL_none _ _ _))) rfl ((e_row_put p _ _ _ _ _ _ _).trans h)
  · exact hF _ _ _ _ _ h
abbrev Ty_row_Put_L0 : Type 1 := List (List Dat) → Int → List (List Dat) → Int → (γ : Type) → (Ex → List (List Dat) → Int → Option γ) → Option γ
def P_row_Put_L0 (X : Ty_row_Put_L0) (F : Loop3) : Loop3 := fun a s γ K => match a, s with
  | [AVal.dat (Dat.sl v_), AVal.dat (Dat.int IntKind.i64 v__1)], ([AVal.dat (Dat.sl v_b), AVal.dat (Dat.int IntKind.i64 v__2)], []) => X v_ v__1 v_b v__2 γ (fun e x0 x1 => K (e, ([AVal.dat (Dat.sl x0), AVal.dat (Dat.int IntKind.i64 x1)], [])))
  | a, s => F a s γ K
def T_row_Put_L0 (x_row_put : Ty_row_put) : CallK := (addK noneK 31 (P_row_put x_row_put none3))
def L_row_Put_L0 (x_row_put : Ty_row_put) : LoopK := noneL
def Sp.B_row_Put_L0 (x_row_Put_L0 : Ty_row_Put_L0) (x_row_put : Ty_row_put) (v_ : List (List Dat)) (v__1 : Int) (v_b : List (List Dat)) (v__2 : Int) (γ : Type) (K : Ex → List (List Dat) → Int → Option γ) : Option γ := bif sized v_b 1 then bif decide (v__2 < v__1) then elemAt v_ v__2 fun (z6 : List Dat) => bif List.length z6 == 3 then cellAt z6 0 fun (z7 : Dat) => Aev.asInt IntKind.i64 z7 fun (z8 : Int) => cellAt z6 1 fun (z9 : Dat) => Aev.asInt IntKind.i64 z9 fun (z10 : Int) => cellAt z6 2 fun (z11 : Dat) => asStr z11 fun (z12 : ByteArray) => x_row_put v_b z8 z10 z12 γ fun (z13 : List (List Dat)) => x_row_Put_L0 v_ v__1 z13 (IntKind.wrap IntKind.i64 (v__2 + 1)) γ K else none else K (Ex.exit 0) v_b v__2 else none
theorem e_row_Put_L0 (p : Par) (x_row_Put_L0 : Ty_row_Put_L0) (x_row_put : Ty_row_put) (v_ : List (List Dat)) (v__1 : Int) (v_b : List (List Dat)) (v__2 : Int) (γ : Type) (K : Ex × Vars → Option γ) : roundK (cfg p) (T_row_Put_L0 x_row_put) (L_row_Put_L0 x_row_put) 10 0 [AVal.dat (Dat.sl v_), AVal.dat (Dat.int IntKind.i64 v__1)] ([AVal.dat (Dat.sl v_b), AVal.dat (Dat.int IntKind.i64 v__2)], []) γ (contL (fun v => P_row_Put_L0 x_row_Put_L0 noneL3 [AVal.dat (Dat.sl v_), AVal.dat (Dat.int IntKind.i64 v__1)] v γ K) K) = Sp.B_row_Put_L0 x_row_Put_L0 x_row_put v_ v__1 v_b v__2 γ (fun e x0 x1 => K (e, ([AVal.dat (Dat.sl x0), AVal.dat (Dat.int IntKind.i64 x1)], []))) := by kernel_rfl
def Sp.row_Put_L0 : Nat → Ty_row_Put_L0
  | 0 => fun _ _ _ _ _ _ => none
  | n + 1 => Sp.B_row_Put_L0 (Sp.row_Put_L0 n) Sp.row_put
theorem E0_row_Put_L0 (p : Par)   : ∀ n, EntOkL (cfg p) 10 0 (P_row_Put_L0 (Sp.row_Put_L0  n) noneL3) := entL_rounds (tab_call (tab_nil _) (E_row_put p (ent_none _ _))) (by kernel_rfl) (fun c v γ K => by unfold P_row_Put_L0; split <;> rfl) fun n c v γ K q h => by
  unfold P_row_Put_L0 at h
  split at h
  · exact (e_row_Put_L0 p _ _ _ _ _ _ _ _).trans h
  · cases h
theorem E_row_Put_L0 (p : Par)   (n : Nat) {F : Loop3} (hF : EntOkL (cfg p) 10 0 F) : EntOkL (cfg p) 10 0 (P_row_Put_L0 (Sp.row_Put_L0  n) F) := by
  intro c v γ K q h
  unfold P_row_Put_L0 at h
  split at h
  · exact E0_row_Put_L0 p   n _ _ _ _ _ h
  · exact hF _ _ _ _ _ h
abbrev Ty_row_Put : Type 1 := List (List Dat) → (γ : Type) → (List (List Dat) → Int → Option γ) → Option γ
def P_row_Put (X : Ty_row_Put) (F : Ent3) : Ent3 := fun a s γ K => match a, s with
  | [AVal.dat (Dat.sl v_r)], [] => X v_r γ (fun r0 r1 => K ([(AVal.dat (Dat.sl r0), Own.id 0 1), (AVal.dat (Dat.int IntKind.i64 r1), Own.none)], []))
  | a, s => F a s γ K
def T_row_Put (x_row_Check : Ty_row_Check) (x_row_Put_L0 : Ty_row_Put_L0) : CallK := (addK noneK 12 (P_row_Check x_row_Check none3))
def L_row_Put (x_row_Check : Ty_row_Check) (x_row_Put_L0 : Ty_row_Put_L0) : LoopK := (addL noneL 10 0 (P_row_Put_L0 x_row_Put_L0 noneL3))
def Sp.B_row_Put (x_row_Check : Ty_row_Check) (x_row_Put_L0 : Ty_row_Put_L0) (v_r : List (List Dat)) (γ : Type) (K : List (List Dat) → Int → Option γ) : Option γ := x_row_Check v_r γ fun (z3 : Int) => bif !decide (z3 = 0) then K [] z3 else x_row_Put_L0 v_r (Int.ofNat (List.length v_r)) [[Dat.int IntKind.u8 (IntKind.wrap IntKind.u8 (Int.ofNat (List.length v_r)))]] 0 γ fun (z4 : Ex) (z5 : List (List Dat)) (z6 : Int) => bif sized z5 1 then bif Ex.isExit z4 0 then K z5 0 else bif Ex.isRet z4 then none else none else none
theorem e_row_Put (p : Par) (x_row_Check : Ty_row_Check) (x_row_Put_L0 : Ty_row_Put_L0) (v_r : List (List Dat)) (γ : Type) (K : List Ent × Sig → Option γ) : evFK (cfg p) (T_row_Put x_row_Check x_row_Put_L0) (L_row_Put x_row_Check x_row_Put_L0) 10 [AVal.dat (Dat.sl v_r)] [] γ K = Sp.B_row_Put x_row_Check x_row_Put_L0 v_r γ (fun r0 r1 => K ([(AVal.dat (Dat.sl r0), Own.id 0 1), (AVal.dat (Dat.int IntKind.i64 r1), Own.none)], [])) := by kernel_rfl
def Sp.row_Put : Ty_row_Put := Sp.B_row_Put Sp.row_Check (Sp.row_Put_L0 fuel)
theorem E_row_Put (p : Par) {F : Ent3} (hF : EntOk (cfg p) 10 F) : EntOk (cfg p) 10 (P_row_Put Sp.row_Put F) := by
  intro a s γ K q h
  unfold P_row_Put at h
  split at h
  · exact body_ok (tab_loop (tab_call (tab_nil _) (E_row_Check p (ent_none _ _))) (E_row_Put_L0 p fuel (entL_none _ _ _))) rfl ((e_row_Put p _ _ _ _ _).trans h)
  · exact hF _ _ _ _ _ h
abbrev Ty_row_reader_next : Type 1 := Int → List (List Dat) → Int → Bool → (γ : Type) → (List (List Dat) → List (List Dat) → Int → Bool → Option γ) → Option γ
def P_row_reader_next (X : Ty_row_reader_next) (F : Ent3) : Ent3 := fun a s γ K => match a, s with
  | [AVal.ref 0 0, AVal.dat (Dat.int IntKind.i64 v_n)], [Box.cells [AVal.dat (Dat.sl b0), AVal.dat (Dat.int IntKind.i64 b1), AVal.dat (Dat.bool b2)]] => X v_n b0 b1 b2 γ (fun r0 r1 r2 r3 => K ([(AVal.dat (Dat.sl r0), Own.none)], [Box.cells [AVal.dat (Dat.sl r1), AVal.dat (Dat.int IntKind.i64 r2), AVal.dat (Dat.bool r3)]]))
  | a, s => F a s γ K
def T_row_reader_next  : CallK := noneK
def L_row_reader_next  : LoopK := noneL
def Sp.B_row_reader_next  (v_n : Int) (b0 : List (List Dat)) (b1 : Int) (b2 : Bool) (γ : Type) (K : List (List Dat) → List (List Dat) → Int → Bool → Option γ) : Option γ := bif b2 then bif decide (0 ≤ v_n) && decide (v_n ≤ v_n) && decide (v_n * 2 ≤ 70368744177664) && true && true then K (List.replicate (Int.toNat v_n) [Dat.int IntKind.u8 0]) b0 b1 true else none else bif decide (IntKind.wrap IntKind.i64 (Int.ofNat (List.length b0) - b1) < v_n) then bif decide (0 ≤ v_n) && decide (v_n ≤ v_n) && decide (v_n * 2 ≤ 70368744177664) && true && true then K (List.replicate (Int.toNat v_n) [Dat.int IntKind.u8 0]) b0 b1 true else none else bif decide (0 ≤ IntKind.wrap IntKind.i64 (IntKind.wrap IntKind.i64 (b1 + v_n) - v_n)) && decide (IntKind.wrap IntKind.i64 (IntKind.wrap IntKind.i64 (b1 + v_n) - v_n) ≤ IntKind.wrap IntKind.i64 (b1 + v_n)) && decide (IntKind.wrap IntKind.i64 (b1 + v_n) ≤ Int.ofNat (List.length b0)) && true && sized b0 1 then K (List.drop (Int.toNat (IntKind.wrap IntKind.i64 (IntKind.wrap IntKind.i64 (b1 + v_n) - v_n))) (List.take (Int.toNat (IntKind.wrap IntKind.i64 (b1 + v_n))) b0)) b0 (IntKind.wrap IntKind.i64 (b1 + v_n)) b2 else none
theorem e_row_reader_next (p : Par)  (v_n : Int) (b0 : List (List Dat)) (b1 : Int) (b2 : Bool) (γ : Type) (K : List Ent × Sig → Option γ) : evFK (cfg p) (T_row_reader_next ) (L_row_reader_next ) 53 [AVal.ref 0 0, AVal.dat (Dat.int IntKind.i64 v_n)] [Box.cells [AVal.dat (Dat.sl b0), AVal.dat (Dat.int IntKind.i64 b1), AVal.dat (Dat.bool b2)]] γ K = Sp.B_row_reader_next  v_n b0 b1 b2 γ (fun r0 r1 r2 r3 => K ([(AVal.dat (Dat.sl r0), Own.none)], [Box.cells [AVal.dat (Dat.sl r1), AVal.dat (Dat.int IntKind.i64 r2), AVal.dat (Dat.bool r3)]])) := by kernel_rfl
def Sp.row_reader_next : Ty_row_reader_next := Sp.B_row_reader_next 
theorem E_row_reader_next (p : Par) {F : Ent3} (hF : EntOk (cfg p) 53 F) : EntOk (cfg p) 53 (P_row_reader_next Sp.row_reader_next F) := by
  intro a s γ K q h
  unfold P_row_reader_next at h
  split at h
  · exact body_ok (tab_nil _) rfl ((e_row_reader_next p  _ _ _ _ _ _).trans h)
  · exact hF _ _ _ _ _ h
abbrev Ty_row_reader_byte : Type 1 := List (List Dat) → Int → Bool → (γ : Type) → (Int → List (List Dat) → Int → Bool → Option γ) → Option γ
def P_row_reader_byte (X : Ty_row_reader_byte) (F : Ent3) : Ent3 := fun a s γ K => match a, s with
  | [AVal.ref 0 0], [Box.cells [AVal.dat (Dat.sl b0), AVal.dat (Dat.int IntKind.i64 b1), AVal.dat (Dat.bool b2)]] => X b0 b1 b2 γ (fun r0 r1 r2 r3 => K ([(AVal.dat (Dat.int IntKind.i64 r0), Own.none)], [Box.cells [AVal.dat (Dat.sl r1), AVal.dat (Dat.int IntKind.i64 r2), AVal.dat (Dat.bool r3)]]))
  | a, s => F a s γ K
def T_row_reader_byte (x_row_reader_next : Ty_row_reader_next) : CallK := (addK noneK 53 (P_row_reader_next x_row_reader_next none3))
def L_row_reader_byte (x_row_reader_next : Ty_row_reader_next) : LoopK := noneL
def Sp.B_row_reader_byte (x_row_reader_next : Ty_row_reader_next) (b0 : List (List Dat)) (b1 : Int) (b2 : Bool) (γ : Type) (K : Int → List (List Dat) → Int → Bool → Option γ) : Option γ := x_row_reader_next 1 b0 b1 b2 γ fun (z5 z6 : List (List Dat)) (z7 : Int) (z8 : Bool) => elemAt z5 0 fun (z9 : List Dat) => bif List.length z9 == 1 then cellAt z9 0 fun (z10 : Dat) => Aev.asInt IntKind.u8 z10 fun (z11 : Int) => K (IntKind.wrap IntKind.i64 z11) z6 z7 z8 else none
theorem e_row_reader_byte (p : Par) (x_row_reader_next : Ty_row_reader_next) (b0 : List (List Dat)) (b1 : Int) (b2 : Bool) (γ : Type) (K : List Ent × Sig → Option γ) : evFK (cfg p) (T_row_reader_byte x_row_reader_next) (L_row_reader_byte x_row_reader_next) 37 [AVal.ref 0 0] [Box.cells [AVal.dat (Dat.sl b0), AVal.dat (Dat.int IntKind.i64 b1), AVal.dat (Dat.bool b2)]] γ K = Sp.B_row_reader_byte x_row_reader_next b0 b1 b2 γ (fun r0 r1 r2 r3 => K ([(AVal.dat (Dat.int IntKind.i64 r0), Own.none)], [Box.cells [AVal.dat (Dat.sl r1), AVal.dat (Dat.int IntKind.i64 r2), AVal.dat (Dat.bool r3)]])) := by kernel_rfl
def Sp.row_reader_byte : Ty_row_reader_byte := Sp.B_row_reader_byte Sp.row_reader_next
theorem E_row_reader_byte (p : Par) {F : Ent3} (hF : EntOk (cfg p) 37 F) : EntOk (cfg p) 37 (P_row_reader_byte Sp.row_reader_byte F) := by
  intro a s γ K q h
  unfold P_row_reader_byte at h
  split at h
  · exact body_ok (tab_call (tab_nil _) (E_row_reader_next p (ent_none _ _))) rfl ((e_row_reader_byte p _ _ _ _ _ _).trans h)
  · exact hF _ _ _ _ _ h
abbrev Ty_row_reader_value_L1 : Type 1 := List (List Dat) → Int → Int → Int → Int → Int → ByteArray → Int → Int → ByteArray → List (List Dat) → Int → Bool → (γ : Type) → (Ex → Int → Int → Int → Int → ByteArray → Int → Int → ByteArray → List (List Dat) → Int → Bool → Option γ) → Option γ
def P_row_reader_value_L1 (X : Ty_row_reader_value_L1) (F : Loop3) : Loop3 := fun a s γ K => match a, s with
  | [AVal.ref 0 0, AVal.loc 2 0, AVal.loc 3 0, AVal.dat (Dat.sl v_), AVal.dat (Dat.int IntKind.i64 v__1)], ([AVal.dat (Dat.int IntKind.u64 v_n), AVal.dat (Dat.int IntKind.i64 v__2), AVal.agg [(Dat.int IntKind.i64 v_box0, Own.none), (Dat.int IntKind.i64 v_box1, Own.none), (Dat.str v_box2, Own.none)], AVal.agg [(Dat.int IntKind.i64 v_box0_1, Own.none), (Dat.int IntKind.i64 v_box1_1, Own.none), (Dat.str v_box2_1, Own.none)]], [Box.cells [AVal.dat (Dat.sl b0), AVal.dat (Dat.int IntKind.i64 b1), AVal.dat (Dat.bool b2)]]) => X v_ v__1 v_n v__2 v_box0 v_box1 v_box2 v_box0_1 v_box1_1 v_box2_1 b0 b1 b2 γ (fun e x0 x1 x2 x3 x4 x5 x6 x7 x8 x9 x10 => K (e, ([AVal.dat (Dat.int IntKind.u64 x0), AVal.dat (Dat.int IntKind.i64 x1), AVal.agg [(Dat.int IntKind.i64 x2, Own.none), (Dat.int IntKind.i64 x3, Own.none), (Dat.str x4, Own.none)], AVal.agg [(Dat.int IntKind.i64 x5, Own.none), (Dat.int IntKind.i64 x6, Own.none), (Dat.str x7, Own.none)]], [Box.cells [AVal.dat (Dat.sl x8), AVal.dat (Dat.int IntKind.i64 x9), AVal.dat (Dat.bool x10)]])))
  | a, s => F a s γ K
def T_row_reader_value_L1  : CallK := noneK
def L_row_reader_value_L1  : LoopK := noneL
def Sp.B_row_reader_value_L1 (x_row_reader_value_L1 : Ty_row_reader_value_L1)  (v_ : List (List Dat)) (v__1 : Int) (v_n : Int) (v__2 : Int) (v_box0 : Int) (v_box1 : Int) (v_box2 : ByteArray) (v_box0_1 : Int) (v_box1_1 : Int) (v_box2_1 : ByteArray) (b0 : List (List Dat)) (b1 : Int) (b2 : Bool) (γ : Type) (K : Ex → Int → Int → Int → Int → ByteArray → Int → Int → ByteArray → List (List Dat) → Int → Bool → Option γ) : Option γ := bif decide (v__2 < v__1) then elemAt v_ v__2 fun (z15 : List Dat) => bif List.length z15 == 1 then cellAt z15 0 fun (z16 : Dat) => Aev.asInt IntKind.u8 z16 fun (z17 : Int) => x_row_reader_value_L1 v_ v__1 (IntKind.wrap IntKind.u64 (Int.ofNat (BitVec.toFin (BitVec.ofInt (IntKind.bits IntKind.u64) (IntKind.wrap IntKind.u64 (v_n * 256)) ||| BitVec.ofInt (IntKind.bits IntKind.u64) (IntKind.wrap IntKind.u64 z17))).1)) (IntKind.wrap IntKind.i64 (v__2 + 1)) v_box0 v_box1 v_box2 v_box0_1 v_box1_1 v_box2_1 b0 b1 b2 γ K else none else K (Ex.exit 1) v_n v__2 v_box0 v_box1 v_box2 v_box0_1 v_box1_1 v_box2_1 b0 b1 b2
theorem e_row_reader_value_L1 (p : Par) (x_row_reader_value_L1 : Ty_row_reader_value_L1)  (v_ : List (List Dat)) (v__1 : Int) (v_n : Int) (v__2 : Int) (v_box0 : Int) (v_box1 : Int) (v_box2 : ByteArray) (v_box0_1 : Int) (v_box1_1 : Int) (v_box2_1 : ByteArray) (b0 : List (List Dat)) (b1 : Int) (b2 : Bool) (γ : Type) (K : Ex × Vars → Option γ) : roundK (cfg p) (T_row_reader_value_L1 ) (L_row_reader_value_L1 ) 38 1 [AVal.ref 0 0, AVal.loc 2 0, AVal.loc 3 0, AVal.dat (Dat.sl v_), AVal.dat (Dat.int IntKind.i64 v__1)] ([AVal.dat (Dat.int IntKind.u64 v_n), AVal.dat (Dat.int IntKind.i64 v__2), AVal.agg [(Dat.int IntKind.i64 v_box0, Own.none), (Dat.int IntKind.i64 v_box1, Own.none), (Dat.str v_box2, Own.none)], AVal.agg [(Dat.int IntKind.i64 v_box0_1, Own.none), (Dat.int IntKind.i64 v_box1_1, Own.none), (Dat.str v_box2_1, Own.none)]], [Box.cells [AVal.dat (Dat.sl b0), AVal.dat (Dat.int IntKind.i64 b1), AVal.dat (Dat.bool b2)]]) γ (contL (fun v => P_row_reader_value_L1 x_row_reader_value_L1 noneL3 [AVal.ref 0 0, AVal.loc 2 0, AVal.loc 3 0, AVal.dat (Dat.sl v_), AVal.dat (Dat.int IntKind.i64 v__1)] v γ K) K) = Sp.B_row_reader_value_L1 x_row_reader_value_L1  v_ v__1 v_n v__2 v_box0 v_box1 v_box2 v_box0_1 v_box1_1 v_box2_1 b0 b1 b2 γ (fun e x0 x1 x2 x3 x4 x5 x6 x7 x8 x9 x10 => K (e, ([AVal.dat (Dat.int IntKind.u64 x0), AVal.dat (Dat.int IntKind.i64 x1), AVal.agg [(Dat.int IntKind.i64 x2, Own.none), (Dat.int IntKind.i64 x3, Own.none), (Dat.str x4, Own.none)], AVal.agg [(Dat.int IntKind.i64 x5, Own.none), (Dat.int IntKind.i64 x6, Own.none), (Dat.str x7, Own.none)]], [Box.cells [AVal.dat (Dat.sl x8), AVal.dat (Dat.int IntKind.i64 x9), AVal.dat (Dat.bool x10)]]))) := by kernel_rfl
def Sp.row_reader_value_L1 : Nat → Ty_row_reader_value_L1
  | 0 => fun _ _ _ _ _ _ _ _ _ _ _ _ _ _ _ => none
  | n + 1 => Sp.B_row_reader_value_L1 (Sp.row_reader_value_L1 n) 
theorem E0_row_reader_value_L1 (p : Par)   : ∀ n, EntOkL (cfg p) 38 1 (P_row_reader_value_L1 (Sp.row_reader_value_L1  n) noneL3) := entL_rounds (tab_nil _) (by kernel_rfl) (fun c v γ K => by unfold P_row_reader_value_L1; split <;> rfl) fun n c v γ K q h => by
  unfold P_row_reader_value_L1 at h
  split at h
  · exact (e_row_reader_value_L1 p _  _ _ _ _ _ _ _ _ _ _ _ _ _ _ _).trans h
  · cases h
theorem E_row_reader_value_L1 (p : Par)   (n : Nat) {F : Loop3} (hF : EntOkL (cfg p) 38 1 F) : EntOkL (cfg p) 38 1 (P_row_reader_value_L1 (Sp.row_reader_value_L1  n) F) := by
  intro c v γ K q h
  unfold P_row_reader_value_L1 at h
  split at h
  · exact E0_row_reader_value_L1 p   n _ _ _ _ _ h
  · exact hF _ _ _ _ _ h
abbrev Ty_row_reader_value : Type 1 := List (List Dat) → Int → Bool → (γ : Type) → (Int → Int → ByteArray → List (List Dat) → Int → Bool → Option γ) → Option γ
def P_row_reader_value (X : Ty_row_reader_value) (F : Ent3) : Ent3 := fun a s γ K => match a, s with
  | [AVal.ref 0 0], [Box.cells [AVal.dat (Dat.sl b0), AVal.dat (Dat.int IntKind.i64 b1), AVal.dat (Dat.bool b2)]] => X b0 b1 b2 γ (fun r0 r1 r2 r3 r4 r5 => K ([(AVal.agg [(Dat.int IntKind.i64 r0, Own.none), (Dat.int IntKind.i64 r1, Own.none), (Dat.str r2, Own.none)], Own.none)], [Box.cells [AVal.dat (Dat.sl r3), AVal.dat (Dat.int IntKind.i64 r4), AVal.dat (Dat.bool r5)]]))
  | a, s => F a s γ K
def T_row_reader_value (x_row_reader_byte : Ty_row_reader_byte) (x_value_Check : Ty_value_Check) (x_row_reader_next : Ty_row_reader_next) (x_row_reader_value_L1 : Ty_row_reader_value_L1) : CallK := (addK (addK (addK noneK 37 (P_row_reader_byte x_row_reader_byte none3)) 34 (P_value_Check x_value_Check none3)) 53 (P_row_reader_next x_row_reader_next none3))
def L_row_reader_value (x_row_reader_byte : Ty_row_reader_byte) (x_value_Check : Ty_value_Check) (x_row_reader_next : Ty_row_reader_next) (x_row_reader_value_L1 : Ty_row_reader_value_L1) : LoopK := (addL noneL 38 1 (P_row_reader_value_L1 x_row_reader_value_L1 noneL3))
def Sp.B_row_reader_value (x_row_reader_byte : Ty_row_reader_byte) (x_value_Check : Ty_value_Check) (x_row_reader_next : Ty_row_reader_next) (x_row_reader_value_L1 : Ty_row_reader_value_L1) (b0 : List (List Dat)) (b1 : Int) (b2 : Bool) (γ : Type) (K : Int → Int → ByteArray → List (List Dat) → Int → Bool → Option γ) : Option γ := x_row_reader_byte b0 b1 b2 γ fun (z5 : Int) (z6 : List (List Dat)) (z7 : Int) (z8 : Bool) =>
    bif decide (z5 = 1) then x_row_reader_byte z6 z7 z8 γ fun (z9 : Int) (z10 : List (List Dat)) (z11 : Int) (z12 : Bool) => bif z12 then K z5 z9 (bs []) z10 z11 true else x_value_Check z5 z9 (bs []) γ fun (z13 : Int) => K z5 z9 (bs []) z10 z11 !decide (z13 = 0)
    else
      bif decide (z5 = 2) then x_row_reader_next 7 z6 z7 z8 γ fun (z14 z15 : List (List Dat)) (z16 : Int) (z17 : Bool) => x_row_reader_value_L1 z14 (Int.ofNat (List.length z14)) 0 0 0 0 (bs []) z5 0 (bs []) z15 z16 z17 γ fun (z18 : Ex) (z19 z20 z21 z22 : Int) (z23 : ByteArray) (z24 z25 : Int) (z26 : ByteArray) (z27 : List (List Dat)) (z28 : Int) (z29 : Bool) => bif Ex.isExit z18 1 then bif z29 then K z24 (IntKind.wrap IntKind.i64 (IntKind.wrap IntKind.i64 z19 - 9007199254740992)) z26 z27 z28 true else x_value_Check z24 (IntKind.wrap IntKind.i64 (IntKind.wrap IntKind.i64 z19 - 9007199254740992)) z26 γ fun (z30 : Int) => K z24 (IntKind.wrap IntKind.i64 (IntKind.wrap IntKind.i64 z19 - 9007199254740992)) z26 z27 z28 !decide (z30 = 0) else bif Ex.isRet z18 then K z21 z22 z23 z27 z28 z29 else none
      else
        bif decide (z5 = 3) then
          x_row_reader_byte z6 z7 z8 γ fun (z31 : Int) (z32 : List (List Dat)) (z33 : Int) (z34 : Bool) =>
            x_row_reader_next z31 z32 z33 z34 γ fun (z35 z36 : List (List Dat)) (z37 : Int) (z38 : Bool) =>
              match esBytes z35 with
              | some z40 => bif z38 then K z5 0 (ByteArray.mk (Array.mk z40)) z36 z37 true else x_value_Check z5 0 (ByteArray.mk (Array.mk z40)) γ fun (z41 : Int) => K z5 0 (ByteArray.mk (Array.mk z40)) z36 z37 !decide (z41 = 0)
              | none => none
        else bif z8 then K z5 0 (bs []) z6 z7 true else x_value_Check z5 0 (bs []) γ fun (z43 : Int) => K z5 0 (bs []) z6 z7 !decide (z43 = 0)
theorem e_row_reader_value (p : Par) (x_row_reader_byte : Ty_row_reader_byte) (x_value_Check : Ty_value_Check) (x_row_reader_next : Ty_row_reader_next) (x_row_reader_value_L1 : Ty_row_reader_value_L1) (b0 : List (List Dat)) (b1 : Int) (b2 : Bool) (γ : Type) (K : List Ent × Sig → Option γ) : evFK (cfg p) (T_row_reader_value x_row_reader_byte x_value_Check x_row_reader_next x_row_reader_value_L1) (L_row_reader_value x_row_reader_byte x_value_Check x_row_reader_next x_row_reader_value_L1) 38 [AVal.ref 0 0] [Box.cells [AVal.dat (Dat.sl b0), AVal.dat (Dat.int IntKind.i64 b1), AVal.dat (Dat.bool b2)]] γ K = Sp.B_row_reader_value x_row_reader_byte x_value_Check x_row_reader_next x_row_reader_value_L1 b0 b1 b2 γ (fun r0 r1 r2 r3 r4 r5 => K ([(AVal.agg [(Dat.int IntKind.i64 r0, Own.none), (Dat.int IntKind.i64 r1, Own.none), (Dat.str r2, Own.none)], Own.none)], [Box.cells [AVal.dat (Dat.sl r3), AVal.dat (Dat.int IntKind.i64 r4), AVal.dat (Dat.bool r5)]])) := by kernel_rfl
def Sp.row_reader_value : Ty_row_reader_value := Sp.B_row_reader_value Sp.row_reader_byte Sp.value_Check Sp.row_reader_next (Sp.row_reader_value_L1 fuel)
theorem E_row_reader_value (p : Par) {F : Ent3} (hF : EntOk (cfg p) 38 F) : EntOk (cfg p) 38 (P_row_reader_value Sp.row_reader_value F) := by
  intro a s γ K q h
  unfold P_row_reader_value at h
  split at h
  · exact body_ok (tab_loop (tab_call (tab_call (tab_call (tab_nil _) (E_row_reader_byte p (ent_none _ _))) (E_value_Check p (ent_none _ _))) (E_row_reader_next p (ent_none _ _))) (E_row_reader_value_L1 p fuel (entL_none _ _ _))) rfl ((e_row_reader_value p _ _ _ _ _ _ _ _ _).trans h)
  · exact hF _ _ _ _ _ h
abbrev Ty_row_Get_L0 : Type 1 := Int → List (List Dat) → Int → List (List Dat) → Int → Bool → (γ : Type) → (Ex → List (List Dat) → Int → List (List Dat) → Int → Bool → Option γ) → Option γ
def P_row_Get_L0 (X : Ty_row_Get_L0) (F : Loop3) : Loop3 := fun a s γ K => match a, s with
  | [AVal.ref 0 0, AVal.dat (Dat.int IntKind.i64 v_n)], ([AVal.dat (Dat.sl v_out), AVal.dat (Dat.int IntKind.i64 v_i)], [Box.cells [AVal.dat (Dat.sl b0), AVal.dat (Dat.int IntKind.i64 b1), AVal.dat (Dat.bool b2)]]) => X v_n v_out v_i b0 b1 b2 γ (fun e x0 x1 x2 x3 x4 => K (e, ([AVal.dat (Dat.sl x0), AVal.dat (Dat.int IntKind.i64 x1)], [Box.cells [AVal.dat (Dat.sl x2), AVal.dat (Dat.int IntKind.i64 x3), AVal.dat (Dat.bool x4)]])))
  | a, s => F a s γ K
def T_row_Get_L0 (x_row_reader_value : Ty_row_reader_value) : CallK := (addK noneK 38 (P_row_reader_value x_row_reader_value none3))
def L_row_Get_L0 (x_row_reader_value : Ty_row_reader_value) : LoopK := noneL
def Sp.B_row_Get_L0 (x_row_Get_L0 : Ty_row_Get_L0) (x_row_reader_value : Ty_row_reader_value) (v_n : Int) (v_out : List (List Dat)) (v_i : Int) (b0 : List (List Dat)) (b1 : Int) (b2 : Bool) (γ : Type) (K : Ex → List (List Dat) → Int → List (List Dat) → Int → Bool → Option γ) : Option γ := bif sized v_out 3 then bif decide (v_i < v_n) then bif decide (v_n ≤ 32) then bif !b2 then x_row_reader_value b0 b1 b2 γ fun (z8 z9 : Int) (z10 : ByteArray) (z11 : List (List Dat)) (z12 : Int) (z13 : Bool) => bif sized v_out 3 && true && true && decide ((List.length v_out + 1) * 33 ≤ 70368744177664) && true then x_row_Get_L0 v_n (v_out ++ [[Dat.int IntKind.i64 z8, Dat.int IntKind.i64 z9, Dat.str z10]]) (IntKind.wrap IntKind.i64 (v_i + 1)) z11 z12 z13 γ K else none else K (Ex.exit 0) v_out v_i b0 b1 b2 else K (Ex.exit 0) v_out v_i b0 b1 b2 else K (Ex.exit 0) v_out v_i b0 b1 b2 else none
theorem e_row_Get_L0 (p : Par) (x_row_Get_L0 : Ty_row_Get_L0) (x_row_reader_value : Ty_row_reader_value) (v_n : Int) (v_out : List (List Dat)) (v_i : Int) (b0 : List (List Dat)) (b1 : Int) (b2 : Bool) (γ : Type) (K : Ex × Vars → Option γ) : roundK (cfg p) (T_row_Get_L0 x_row_reader_value) (L_row_Get_L0 x_row_reader_value) 14 0 [AVal.ref 0 0, AVal.dat (Dat.int IntKind.i64 v_n)] ([AVal.dat (Dat.sl v_out), AVal.dat (Dat.int IntKind.i64 v_i)], [Box.cells [AVal.dat (Dat.sl b0), AVal.dat (Dat.int IntKind.i64 b1), AVal.dat (Dat.bool b2)]]) γ (contL (fun v => P_row_Get_L0 x_row_Get_L0 noneL3 [AVal.ref 0 0, AVal.dat (Dat.int IntKind.i64 v_n)] v γ K) K) = Sp.B_row_Get_L0 x_row_Get_L0 x_row_reader_value v_n v_out v_i b0 b1 b2 γ (fun e x0 x1 x2 x3 x4 => K (e, ([AVal.dat (Dat.sl x0), AVal.dat (Dat.int IntKind.i64 x1)], [Box.cells [AVal.dat (Dat.sl x2), AVal.dat (Dat.int IntKind.i64 x3), AVal.dat (Dat.bool x4)]]))) := by kernel_rfl
def Sp.row_Get_L0 : Nat → Ty_row_Get_L0
  | 0 => fun _ _ _ _ _ _ _ _ => none
  | n + 1 => Sp.B_row_Get_L0 (Sp.row_Get_L0 n) Sp.row_reader_value
theorem E0_row_Get_L0 (p : Par)   : ∀ n, EntOkL (cfg p) 14 0 (P_row_Get_L0 (Sp.row_Get_L0  n) noneL3) := entL_rounds (tab_call (tab_nil _) (E_row_reader_value p (ent_none _ _))) (by kernel_rfl) (fun c v γ K => by unfold P_row_Get_L0; split <;> rfl) fun n c v γ K q h => by
  unfold P_row_Get_L0 at h
  split at h
  · exact (e_row_Get_L0 p _ _ _ _ _ _ _ _ _ _).trans h
  · cases h
theorem E_row_Get_L0 (p : Par)   (n : Nat) {F : Loop3} (hF : EntOkL (cfg p) 14 0 F) : EntOkL (cfg p) 14 0 (P_row_Get_L0 (Sp.row_Get_L0  n) F) := by
  intro c v γ K q h
  unfold P_row_Get_L0 at h
  split at h
  · exact E0_row_Get_L0 p   n _ _ _ _ _ h
  · exact hF _ _ _ _ _ h
abbrev Ty_row_Get : Type 1 := List (List Dat) → (γ : Type) → (List (List Dat) → Int → Int → Option γ) → Option γ
def P_row_Get (X : Ty_row_Get) (F : Ent3) : Ent3 := fun a s γ K => match a, s with
  | [AVal.dat (Dat.sl v_b)], [] => X v_b γ (fun r0 r1 r2 => K ([(AVal.dat (Dat.sl r0), Own.none), (AVal.dat (Dat.int IntKind.i64 r1), Own.none), (AVal.dat (Dat.int IntKind.i64 r2), Own.none)], []))
  | a, s => F a s γ K
def T_row_Get (x_row_reader_byte : Ty_row_reader_byte) (x_row_Get_L0 : Ty_row_Get_L0) : CallK := (addK noneK 37 (P_row_reader_byte x_row_reader_byte none3))
def L_row_Get (x_row_reader_byte : Ty_row_reader_byte) (x_row_Get_L0 : Ty_row_Get_L0) : LoopK := (addL noneL 14 0 (P_row_Get_L0 x_row_Get_L0 noneL3))
def Sp.B_row_Get (x_row_reader_byte : Ty_row_reader_byte) (x_row_Get_L0 : Ty_row_Get_L0) (v_b : List (List Dat)) (γ : Type) (K : List (List Dat) → Int → Int → Option γ) : Option γ := x_row_reader_byte v_b 0 false γ fun (z3 : Int) (z4 : List (List Dat)) (z5 : Int) (z6 : Bool) => x_row_Get_L0 z3 [] 0 z4 z5 z6 γ fun (z7 : Ex) (z8 : List (List Dat)) (z9 : Int) (z10 : List (List Dat)) (z11 : Int) (z12 : Bool) => bif sized z8 3 then bif Ex.isExit z7 0 then bif z12 then K [] 0 20 else bif decide (32 < z3) then K [] 0 20 else K z8 z11 0 else bif Ex.isRet z7 then none else none else none
theorem e_row_Get (p : Par) (x_row_reader_byte : Ty_row_reader_byte) (x_row_Get_L0 : Ty_row_Get_L0) (v_b : List (List Dat)) (γ : Type) (K : List Ent × Sig → Option γ) : evFK (cfg p) (T_row_Get x_row_reader_byte x_row_Get_L0) (L_row_Get x_row_reader_byte x_row_Get_L0) 14 [AVal.dat (Dat.sl v_b)] [] γ K = Sp.B_row_Get x_row_reader_byte x_row_Get_L0 v_b γ (fun r0 r1 r2 => K ([(AVal.dat (Dat.sl r0), Own.none), (AVal.dat (Dat.int IntKind.i64 r1), Own.none), (AVal.dat (Dat.int IntKind.i64 r2), Own.none)], [])) := by kernel_rfl
def Sp.row_Get : Ty_row_Get := Sp.B_row_Get Sp.row_reader_byte (Sp.row_Get_L0 fuel)
theorem E_row_Get (p : Par) {F : Ent3} (hF : EntOk (cfg p) 14 F) : EntOk (cfg p) 14 (P_row_Get Sp.row_Get F) := by
  intro a s γ K q h
  unfold P_row_Get at h
  split at h
  · exact body_ok (tab_loop (tab_call (tab_nil _) (E_row_reader_byte p (ent_none _ _))) (E_row_Get_L0 p fuel (entL_none _ _ _))) rfl ((e_row_Get p _ _ _ _ _).trans h)
  · exact hF _ _ _ _ _ h
abbrev Ty_row_Pick_1 : Type 1 := Int → List (List Dat) → (γ : Type) → (Bool → List (List Dat) → Option γ) → Option γ
def P_row_Pick_1 (X : Ty_row_Pick_1) (F : Ent3) : Ent3 := fun a s γ K => match a, s with
  | [AVal.dat (Dat.int IntKind.i64 v_i), AVal.ref 0 0], [Box.cells [AVal.dat (Dat.sl b)]] => X v_i b γ (fun r0 r1 => K ([(AVal.dat (Dat.bool r0), Own.none)], [Box.cells [AVal.dat (Dat.sl r1)]]))
  | a, s => F a s γ K
def T_row_Pick_1  : CallK := noneK
def L_row_Pick_1  : LoopK := noneL
def Sp.B_row_Pick_1  (v_i : Int) (b : List (List Dat)) (γ : Type) (K : Bool → List (List Dat) → Option γ) : Option γ := bif decide (v_i < 0) then K true b else K (decide (Int.ofNat (List.length b) ≤ v_i)) b
theorem e_row_Pick_1 (p : Par)  (v_i : Int) (b : List (List Dat)) (γ : Type) (K : List Ent × Sig → Option γ) : evFK (cfg p) (T_row_Pick_1 ) (L_row_Pick_1 ) 47 [AVal.dat (Dat.int IntKind.i64 v_i), AVal.ref 0 0] [Box.cells [AVal.dat (Dat.sl b)]] γ K = Sp.B_row_Pick_1  v_i b γ (fun r0 r1 => K ([(AVal.dat (Dat.bool r0), Own.none)], [Box.cells [AVal.dat (Dat.sl r1)]])) := by kernel_rfl
def Sp.row_Pick_1 : Ty_row_Pick_1 := Sp.B_row_Pick_1 
theorem E_row_Pick_1 (p : Par) {F : Ent3} (hF : EntOk (cfg p) 47 F) : EntOk (cfg p) 47 (P_row_Pick_1 Sp.row_Pick_1 F) := by
  intro a s γ K q h
  unfold P_row_Pick_1 at h
  split at h
  · exact body_ok (tab_nil _) rfl ((e_row_Pick_1 p  _ _ _ _).trans h)
  · exact hF _ _ _ _ _ h
abbrev Ty_slices_IndexFunc_int_int_L0 : Type 1 := List (List Dat) → Int → Int → Int → List (List Dat) → (γ : Type) → (Ex → Int → Int → List (List Dat) → Option γ) → Option γ
def P_slices_IndexFunc_int_int_L0 (X : Ty_slices_IndexFunc_int_int_L0) (F : Loop3) : Loop3 := fun a s γ K => match a, s with
  | [AVal.dat (Dat.sl v_s), AVal.clo (Fn.func 47) [] [AVal.ref 0 0], AVal.dat (Dat.int IntKind.i64 v_)], ([AVal.dat (Dat.int IntKind.i64 v__1), AVal.dat (Dat.int IntKind.i64 v__2)], [Box.cells [AVal.dat (Dat.sl b)]]) => X v_s v_ v__1 v__2 b γ (fun e x0 x1 x2 => K (e, ([AVal.dat (Dat.int IntKind.i64 x0), AVal.dat (Dat.int IntKind.i64 x1)], [Box.cells [AVal.dat (Dat.sl x2)]])))
  | a, s => F a s γ K
def T_slices_IndexFunc_int_int_L0 (x_row_Pick_1 : Ty_row_Pick_1) : CallK := (addK noneK 47 (P_row_Pick_1 x_row_Pick_1 none3))
def L_slices_IndexFunc_int_int_L0 (x_row_Pick_1 : Ty_row_Pick_1) : LoopK := noneL
def Sp.B_slices_IndexFunc_int_int_L0 (x_slices_IndexFunc_int_int_L0 : Ty_slices_IndexFunc_int_int_L0) (x_row_Pick_1 : Ty_row_Pick_1) (v_s : List (List Dat)) (v_ : Int) (v__1 : Int) (v__2 : Int) (b : List (List Dat)) (γ : Type) (K : Ex → Int → Int → List (List Dat) → Option γ) : Option γ := bif decide (v__2 < v_) then elemAt v_s v__2 fun (z7 : List Dat) => bif List.length z7 == 1 then cellAt z7 0 fun (z8 : Dat) => Aev.asInt IntKind.i64 z8 fun (z9 : Int) => x_row_Pick_1 z9 b γ fun (z10 : Bool) (z11 : List (List Dat)) => bif z10 then K Ex.ret v__2 v__2 z11 else x_slices_IndexFunc_int_int_L0 v_s v_ v__1 (IntKind.wrap IntKind.i64 (v__2 + 1)) z11 γ K else none else K (Ex.exit 0) v__1 v__2 b
theorem e_slices_IndexFunc_int_int_L0 (p : Par) (x_slices_IndexFunc_int_int_L0 : Ty_slices_IndexFunc_int_int_L0) (x_row_Pick_1 : Ty_row_Pick_1) (v_s : List (List Dat)) (v_ : Int) (v__1 : Int) (v__2 : Int) (b : List (List Dat)) (γ : Type) (K : Ex × Vars → Option γ) : roundK (cfg p) (T_slices_IndexFunc_int_int_L0 x_row_Pick_1) (L_slices_IndexFunc_int_int_L0 x_row_Pick_1) 57 0 [AVal.dat (Dat.sl v_s), AVal.clo (Fn.func 47) [] [AVal.ref 0 0], AVal.dat (Dat.int IntKind.i64 v_)] ([AVal.dat (Dat.int IntKind.i64 v__1), AVal.dat (Dat.int IntKind.i64 v__2)], [Box.cells [AVal.dat (Dat.sl b)]]) γ (contL (fun v => P_slices_IndexFunc_int_int_L0 x_slices_IndexFunc_int_int_L0 noneL3 [AVal.dat (Dat.sl v_s), AVal.clo (Fn.func 47) [] [AVal.ref 0 0], AVal.dat (Dat.int IntKind.i64 v_)] v γ K) K) = Sp.B_slices_IndexFunc_int_int_L0 x_slices_IndexFunc_int_int_L0 x_row_Pick_1 v_s v_ v__1 v__2 b γ (fun e x0 x1 x2 => K (e, ([AVal.dat (Dat.int IntKind.i64 x0), AVal.dat (Dat.int IntKind.i64 x1)], [Box.cells [AVal.dat (Dat.sl x2)]]))) := by kernel_rfl
def Sp.slices_IndexFunc_int_int_L0 : Nat → Ty_slices_IndexFunc_int_int_L0
  | 0 => fun _ _ _ _ _ _ _ => none
  | n + 1 => Sp.B_slices_IndexFunc_int_int_L0 (Sp.slices_IndexFunc_int_int_L0 n) Sp.row_Pick_1
theorem E0_slices_IndexFunc_int_int_L0 (p : Par)   : ∀ n, EntOkL (cfg p) 57 0 (P_slices_IndexFunc_int_int_L0 (Sp.slices_IndexFunc_int_int_L0  n) noneL3) := entL_rounds (tab_call (tab_nil _) (E_row_Pick_1 p (ent_none _ _))) (by kernel_rfl) (fun c v γ K => by unfold P_slices_IndexFunc_int_int_L0; split <;> rfl) fun n c v γ K q h => by
  unfold P_slices_IndexFunc_int_int_L0 at h
  split at h
  · exact (e_slices_IndexFunc_int_int_L0 p _ _ _ _ _ _ _ _ _).trans h
  · cases h
theorem E_slices_IndexFunc_int_int_L0 (p : Par)   (n : Nat) {F : Loop3} (hF : EntOkL (cfg p) 57 0 F) : EntOkL (cfg p) 57 0 (P_slices_IndexFunc_int_int_L0 (Sp.slices_IndexFunc_int_int_L0  n) F) := by
  intro c v γ K q h
  unfold P_slices_IndexFunc_int_int_L0 at h
  split at h
  · exact E0_slices_IndexFunc_int_int_L0 p   n _ _ _ _ _ h
  · exact hF _ _ _ _ _ h
abbrev Ty_slices_IndexFunc_int_int : Type 1 := List (List Dat) → List (List Dat) → (γ : Type) → (Int → List (List Dat) → Option γ) → Option γ
def P_slices_IndexFunc_int_int (X : Ty_slices_IndexFunc_int_int) (F : Ent3) : Ent3 := fun a s γ K => match a, s with
  | [AVal.dat (Dat.sl v_s), AVal.clo (Fn.func 47) [] [AVal.ref 0 0]], [Box.cells [AVal.dat (Dat.sl b)]] => X v_s b γ (fun r0 r1 => K ([(AVal.dat (Dat.int IntKind.i64 r0), Own.none)], [Box.cells [AVal.dat (Dat.sl r1)]]))
  | a, s => F a s γ K
def T_slices_IndexFunc_int_int (x_slices_IndexFunc_int_int_L0 : Ty_slices_IndexFunc_int_int_L0) : CallK := noneK
def L_slices_IndexFunc_int_int (x_slices_IndexFunc_int_int_L0 : Ty_slices_IndexFunc_int_int_L0) : LoopK := (addL noneL 57 0 (P_slices_IndexFunc_int_int_L0 x_slices_IndexFunc_int_int_L0 noneL3))
def Sp.B_slices_IndexFunc_int_int (x_slices_IndexFunc_int_int_L0 : Ty_slices_IndexFunc_int_int_L0) (v_s : List (List Dat)) (b : List (List Dat)) (γ : Type) (K : Int → List (List Dat) → Option γ) : Option γ := x_slices_IndexFunc_int_int_L0 v_s (Int.ofNat (List.length v_s)) 0 0 b γ fun (z4 : Ex) (z5 z6 : Int) (z7 : List (List Dat)) => bif Ex.isExit z4 0 then K (-1) z7 else bif Ex.isRet z4 then K z5 z7 else none
theorem e_slices_IndexFunc_int_int (p : Par) (x_slices_IndexFunc_int_int_L0 : Ty_slices_IndexFunc_int_int_L0) (v_s : List (List Dat)) (b : List (List Dat)) (γ : Type) (K : List Ent × Sig → Option γ) : evFK (cfg p) (T_slices_IndexFunc_int_int x_slices_IndexFunc_int_int_L0) (L_slices_IndexFunc_int_int x_slices_IndexFunc_int_int_L0) 57 [AVal.dat (Dat.sl v_s), AVal.clo (Fn.func 47) [] [AVal.ref 0 0]] [Box.cells [AVal.dat (Dat.sl b)]] γ K = Sp.B_slices_IndexFunc_int_int x_slices_IndexFunc_int_int_L0 v_s b γ (fun r0 r1 => K ([(AVal.dat (Dat.int IntKind.i64 r0), Own.none)], [Box.cells [AVal.dat (Dat.sl r1)]])) := by kernel_rfl
def Sp.slices_IndexFunc_int_int : Ty_slices_IndexFunc_int_int := Sp.B_slices_IndexFunc_int_int (Sp.slices_IndexFunc_int_int_L0 fuel)
theorem E_slices_IndexFunc_int_int (p : Par) {F : Ent3} (hF : EntOk (cfg p) 57 F) : EntOk (cfg p) 57 (P_slices_IndexFunc_int_int Sp.slices_IndexFunc_int_int F) := by
  intro a s γ K q h
  unfold P_slices_IndexFunc_int_int at h
  split at h
  · exact body_ok (tab_loop (tab_nil _) (E_slices_IndexFunc_int_int_L0 p fuel (entL_none _ _ _))) rfl ((e_slices_IndexFunc_int_int p _ _ _ _ _).trans h)
  · exact hF _ _ _ _ _ h
abbrev Ty_slices_ContainsFunc_int_int : Type 1 := List (List Dat) → List (List Dat) → (γ : Type) → (Bool → List (List Dat) → Option γ) → Option γ
def P_slices_ContainsFunc_int_int (X : Ty_slices_ContainsFunc_int_int) (F : Ent3) : Ent3 := fun a s γ K => match a, s with
  | [AVal.dat (Dat.sl v_s), AVal.clo (Fn.func 47) [] [AVal.ref 0 0]], [Box.cells [AVal.dat (Dat.sl b)]] => X v_s b γ (fun r0 r1 => K ([(AVal.dat (Dat.bool r0), Own.none)], [Box.cells [AVal.dat (Dat.sl r1)]]))
  | a, s => F a s γ K
def T_slices_ContainsFunc_int_int (x_slices_IndexFunc_int_int : Ty_slices_IndexFunc_int_int) : CallK := (addK noneK 57 (P_slices_IndexFunc_int_int x_slices_IndexFunc_int_int none3))
def L_slices_ContainsFunc_int_int (x_slices_IndexFunc_int_int : Ty_slices_IndexFunc_int_int) : LoopK := noneL
def Sp.B_slices_ContainsFunc_int_int (x_slices_IndexFunc_int_int : Ty_slices_IndexFunc_int_int) (v_s : List (List Dat)) (b : List (List Dat)) (γ : Type) (K : Bool → List (List Dat) → Option γ) : Option γ := x_slices_IndexFunc_int_int v_s b γ fun (z4 : Int) (z5 : List (List Dat)) => K (decide (0 ≤ z4)) z5
theorem e_slices_ContainsFunc_int_int (p : Par) (x_slices_IndexFunc_int_int : Ty_slices_IndexFunc_int_int) (v_s : List (List Dat)) (b : List (List Dat)) (γ : Type) (K : List Ent × Sig → Option γ) : evFK (cfg p) (T_slices_ContainsFunc_int_int x_slices_IndexFunc_int_int) (L_slices_ContainsFunc_int_int x_slices_IndexFunc_int_int) 48 [AVal.dat (Dat.sl v_s), AVal.clo (Fn.func 47) [] [AVal.ref 0 0]] [Box.cells [AVal.dat (Dat.sl b)]] γ K = Sp.B_slices_ContainsFunc_int_int x_slices_IndexFunc_int_int v_s b γ (fun r0 r1 => K ([(AVal.dat (Dat.bool r0), Own.none)], [Box.cells [AVal.dat (Dat.sl r1)]])) := by kernel_rfl
def Sp.slices_ContainsFunc_int_int : Ty_slices_ContainsFunc_int_int := Sp.B_slices_ContainsFunc_int_int Sp.slices_IndexFunc_int_int
theorem E_slices_ContainsFunc_int_int (p : Par) {F : Ent3} (hF : EntOk (cfg p) 48 F) : EntOk (cfg p) 48 (P_slices_ContainsFunc_int_int Sp.slices_ContainsFunc_int_int F) := by
  intro a s γ K q h
  unfold P_slices_ContainsFunc_int_int at h
  split at h
  · exact body_ok (tab_call (tab_nil _) (E_slices_IndexFunc_int_int p (ent_none _ _))) rfl ((e_slices_ContainsFunc_int_int p _ _ _ _ _).trans h)
  · exact hF _ _ _ _ _ h
abbrev Ty_row_Pick_L0 : Type 1 := List (List Dat) → Int → List (List Dat) → Int → List (List Dat) → (γ : Type) → (Ex → List (List Dat) → Int → List (List Dat) → Option γ) → Option γ
def P_row_Pick_L0 (X : Ty_row_Pick_L0) (F : Loop3) : Loop3 := fun a s γ K => match a, s with
  | [AVal.ref 0 0, AVal.dat (Dat.sl v_), AVal.dat (Dat.int IntKind.i64 v__1)], ([AVal.dat (Dat.sl v_out), AVal.dat (Dat.int IntKind.i64 v__2)], [Box.cells [AVal.dat (Dat.sl b)]]) => X v_ v__1 v_out v__2 b γ (fun e x0 x1 x2 => K (e, ([AVal.dat (Dat.sl x0), AVal.dat (Dat.int IntKind.i64 x1)], [Box.cells [AVal.dat (Dat.sl x2)]])))
  | a, s => F a s γ K
def T_row_Pick_L0  : CallK := noneK
def L_row_Pick_L0  : LoopK := noneL
def Sp.B_row_Pick_L0 (x_row_Pick_L0 : Ty_row_Pick_L0)  (v_ : List (List Dat)) (v__1 : Int) (v_out : List (List Dat)) (v__2 : Int) (b : List (List Dat)) (γ : Type) (K : Ex → List (List Dat) → Int → List (List Dat) → Option γ) : Option γ := bif sized v_out 3 then bif decide (v__2 < v__1) then elemAt v_ v__2 fun (z7 : List Dat) => bif List.length z7 == 1 then cellAt z7 0 fun (z8 : Dat) => Aev.asInt IntKind.i64 z8 fun (z9 : Int) => elemAt b z9 fun (z10 : List Dat) => bif List.length z10 == 3 then cellAt z10 0 fun (z11 : Dat) => Aev.asInt IntKind.i64 z11 fun (z12 : Int) => cellAt z10 1 fun (z13 : Dat) => Aev.asInt IntKind.i64 z13 fun (z14 : Int) => cellAt z10 2 fun (z15 : Dat) => asStr z15 fun (z16 : ByteArray) => bif sized v_out 3 && true && true && decide ((List.length v_out + 1) * 33 ≤ 70368744177664) && true then x_row_Pick_L0 v_ v__1 (v_out ++ [[Dat.int IntKind.i64 z12, Dat.int IntKind.i64 z14, Dat.str z16]]) (IntKind.wrap IntKind.i64 (v__2 + 1)) b γ K else none else none else none else K (Ex.exit 0) v_out v__2 b else none
theorem e_row_Pick_L0 (p : Par) (x_row_Pick_L0 : Ty_row_Pick_L0)  (v_ : List (List Dat)) (v__1 : Int) (v_out : List (List Dat)) (v__2 : Int) (b : List (List Dat)) (γ : Type) (K : Ex × Vars → Option γ) : roundK (cfg p) (T_row_Pick_L0 ) (L_row_Pick_L0 ) 23 0 [AVal.ref 0 0, AVal.dat (Dat.sl v_), AVal.dat (Dat.int IntKind.i64 v__1)] ([AVal.dat (Dat.sl v_out), AVal.dat (Dat.int IntKind.i64 v__2)], [Box.cells [AVal.dat (Dat.sl b)]]) γ (contL (fun v => P_row_Pick_L0 x_row_Pick_L0 noneL3 [AVal.ref 0 0, AVal.dat (Dat.sl v_), AVal.dat (Dat.int IntKind.i64 v__1)] v γ K) K) = Sp.B_row_Pick_L0 x_row_Pick_L0  v_ v__1 v_out v__2 b γ (fun e x0 x1 x2 => K (e, ([AVal.dat (Dat.sl x0), AVal.dat (Dat.int IntKind.i64 x1)], [Box.cells [AVal.dat (Dat.sl x2)]]))) := by kernel_rfl
def Sp.row_Pick_L0 : Nat → Ty_row_Pick_L0
  | 0 => fun _ _ _ _ _ _ _ => none
  | n + 1 => Sp.B_row_Pick_L0 (Sp.row_Pick_L0 n) 
theorem E0_row_Pick_L0 (p : Par)   : ∀ n, EntOkL (cfg p) 23 0 (P_row_Pick_L0 (Sp.row_Pick_L0  n) noneL3) := entL_rounds (tab_nil _) (by kernel_rfl) (fun c v γ K => by unfold P_row_Pick_L0; split <;> rfl) fun n c v γ K q h => by
  unfold P_row_Pick_L0 at h
  split at h
  · exact (e_row_Pick_L0 p _  _ _ _ _ _ _ _).trans h
  · cases h
theorem E_row_Pick_L0 (p : Par)   (n : Nat) {F : Loop3} (hF : EntOkL (cfg p) 23 0 F) : EntOkL (cfg p) 23 0 (P_row_Pick_L0 (Sp.row_Pick_L0  n) F) := by
  intro c v γ K q h
  unfold P_row_Pick_L0 at h
  split at h
  · exact E0_row_Pick_L0 p   n _ _ _ _ _ h
  · exact hF _ _ _ _ _ h
abbrev Ty_row_Pick : Type 1 := List (List Dat) → List (List Dat) → (γ : Type) → (List (List Dat) → Int → Option γ) → Option γ
def P_row_Pick (X : Ty_row_Pick) (F : Ent3) : Ent3 := fun a s γ K => match a, s with
  | [AVal.dat (Dat.sl v_r), AVal.dat (Dat.sl v_cols)], [] => X v_r v_cols γ (fun r0 r1 => K ([(AVal.dat (Dat.sl r0), Own.none), (AVal.dat (Dat.int IntKind.i64 r1), Own.none)], []))
  | a, s => F a s γ K
def T_row_Pick (x_slices_ContainsFunc_int_int : Ty_slices_ContainsFunc_int_int) (x_row_Pick_L0 : Ty_row_Pick_L0) : CallK := (addK noneK 48 (P_slices_ContainsFunc_int_int x_slices_ContainsFunc_int_int none3))
def L_row_Pick (x_slices_ContainsFunc_int_int : Ty_slices_ContainsFunc_int_int) (x_row_Pick_L0 : Ty_row_Pick_L0) : LoopK := (addL noneL 23 0 (P_row_Pick_L0 x_row_Pick_L0 noneL3))
def Sp.B_row_Pick (x_slices_ContainsFunc_int_int : Ty_slices_ContainsFunc_int_int) (x_row_Pick_L0 : Ty_row_Pick_L0) (v_r : List (List Dat)) (v_cols : List (List Dat)) (γ : Type) (K : List (List Dat) → Int → Option γ) : Option γ := bif decide (32 < Int.ofNat (List.length v_cols)) then K [] 1 else x_slices_ContainsFunc_int_int v_cols v_r γ fun (z4 : Bool) (z5 : List (List Dat)) => bif z4 then K [] 1 else x_row_Pick_L0 v_cols (Int.ofNat (List.length v_cols)) [] 0 z5 γ fun (z6 : Ex) (z7 : List (List Dat)) (z8 : Int) (z9 : List (List Dat)) => bif sized z7 3 then bif Ex.isExit z6 0 then K z7 0 else bif Ex.isRet z6 then none else none else none
theorem e_row_Pick (p : Par) (x_slices_ContainsFunc_int_int : Ty_slices_ContainsFunc_int_int) (x_row_Pick_L0 : Ty_row_Pick_L0) (v_r : List (List Dat)) (v_cols : List (List Dat)) (γ : Type) (K : List Ent × Sig → Option γ) : evFK (cfg p) (T_row_Pick x_slices_ContainsFunc_int_int x_row_Pick_L0) (L_row_Pick x_slices_ContainsFunc_int_int x_row_Pick_L0) 23 [AVal.dat (Dat.sl v_r), AVal.dat (Dat.sl v_cols)] [] γ K = Sp.B_row_Pick x_slices_ContainsFunc_int_int x_row_Pick_L0 v_r v_cols γ (fun r0 r1 => K ([(AVal.dat (Dat.sl r0), Own.none), (AVal.dat (Dat.int IntKind.i64 r1), Own.none)], [])) := by kernel_rfl
def Sp.row_Pick : Ty_row_Pick := Sp.B_row_Pick Sp.slices_ContainsFunc_int_int (Sp.row_Pick_L0 fuel)
theorem E_row_Pick (p : Par) {F : Ent3} (hF : EntOk (cfg p) 23 F) : EntOk (cfg p) 23 (P_row_Pick Sp.row_Pick F) := by
  intro a s γ K q h
  unfold P_row_Pick at h
  split at h
  · exact body_ok (tab_loop (tab_call (tab_nil _) (E_slices_ContainsFunc_int_int p (ent_none _ _))) (E_row_Pick_L0 p fuel (entL_none _ _ _))) rfl ((e_row_Pick p _ _ _ _ _ _).trans h)
  · exact hF _ _ _ _ _ h
abbrev Ty_slices_Concat_api_Value_api_Value_L0 : Type 1 := List (List Dat) → List (List Dat) → Int → Int → Int → (γ : Type) → (Ex → Int → Int → Option γ) → Option γ
def P_slices_Concat_api_Value_api_Value_L0 (X : Ty_slices_Concat_api_Value_api_Value_L0) (F : Loop3) : Loop3 := fun a s γ K => match a, s with
  | [AVal.dat (Dat.sl v_slices), AVal.dat (Dat.sl v_), AVal.dat (Dat.int IntKind.i64 v__1)], ([AVal.dat (Dat.int IntKind.i64 v_size), AVal.dat (Dat.int IntKind.i64 v__2)], []) => X v_slices v_ v__1 v_size v__2 γ (fun e x0 x1 => K (e, ([AVal.dat (Dat.int IntKind.i64 x0), AVal.dat (Dat.int IntKind.i64 x1)], [])))
  | a, s => F a s γ K
def T_slices_Concat_api_Value_api_Value_L0  : CallK := noneK
def L_slices_Concat_api_Value_api_Value_L0  : LoopK := noneL
def Sp.B_slices_Concat_api_Value_api_Value_L0 (x_slices_Concat_api_Value_api_Value_L0 : Ty_slices_Concat_api_Value_api_Value_L0)  (v_slices : List (List Dat)) (v_ : List (List Dat)) (v__1 : Int) (v_size : Int) (v__2 : Int) (γ : Type) (K : Ex → Int → Int → Option γ) : Option γ := bif decide (v__2 < v__1) then elemAt v_ v__2 fun (z7 : List Dat) => bif List.length z7 == 1 then cellAt z7 0 fun (z8 : Dat) => asSl z8 fun (z9 : List (List Dat)) => bif decide (IntKind.wrap IntKind.i64 (v_size + Int.ofNat (List.length z9)) < 0) then none else x_slices_Concat_api_Value_api_Value_L0 v_slices v_ v__1 (IntKind.wrap IntKind.i64 (v_size + Int.ofNat (List.length z9))) (IntKind.wrap IntKind.i64 (v__2 + 1)) γ K else none else K (Ex.exit 0) v_size v__2
theorem e_slices_Concat_api_Value_api_Value_L0 (p : Par) (x_slices_Concat_api_Value_api_Value_L0 : Ty_slices_Concat_api_Value_api_Value_L0)  (v_slices : List (List Dat)) (v_ : List (List Dat)) (v__1 : Int) (v_size : Int) (v__2 : Int) (γ : Type) (K : Ex × Vars → Option γ) : roundK (cfg p) (T_slices_Concat_api_Value_api_Value_L0 ) (L_slices_Concat_api_Value_api_Value_L0 ) 49 0 [AVal.dat (Dat.sl v_slices), AVal.dat (Dat.sl v_), AVal.dat (Dat.int IntKind.i64 v__1)] ([AVal.dat (Dat.int IntKind.i64 v_size), AVal.dat (Dat.int IntKind.i64 v__2)], []) γ (contL (fun v => P_slices_Concat_api_Value_api_Value_L0 x_slices_Concat_api_Value_api_Value_L0 noneL3 [AVal.dat (Dat.sl v_slices), AVal.dat (Dat.sl v_), AVal.dat (Dat.int IntKind.i64 v__1)] v γ K) K) = Sp.B_slices_Concat_api_Value_api_Value_L0 x_slices_Concat_api_Value_api_Value_L0  v_slices v_ v__1 v_size v__2 γ (fun e x0 x1 => K (e, ([AVal.dat (Dat.int IntKind.i64 x0), AVal.dat (Dat.int IntKind.i64 x1)], []))) := by kernel_rfl
def Sp.slices_Concat_api_Value_api_Value_L0 : Nat → Ty_slices_Concat_api_Value_api_Value_L0
  | 0 => fun _ _ _ _ _ _ _ => none
  | n + 1 => Sp.B_slices_Concat_api_Value_api_Value_L0 (Sp.slices_Concat_api_Value_api_Value_L0 n) 
theorem E0_slices_Concat_api_Value_api_Value_L0 (p : Par)   : ∀ n, EntOkL (cfg p) 49 0 (P_slices_Concat_api_Value_api_Value_L0 (Sp.slices_Concat_api_Value_api_Value_L0  n) noneL3) := entL_rounds (tab_nil _) (by kernel_rfl) (fun c v γ K => by unfold P_slices_Concat_api_Value_api_Value_L0; split <;> rfl) fun n c v γ K q h => by
  unfold P_slices_Concat_api_Value_api_Value_L0 at h
  split at h
  · exact (e_slices_Concat_api_Value_api_Value_L0 p _  _ _ _ _ _ _ _).trans h
  · cases h
theorem E_slices_Concat_api_Value_api_Value_L0 (p : Par)   (n : Nat) {F : Loop3} (hF : EntOkL (cfg p) 49 0 F) : EntOkL (cfg p) 49 0 (P_slices_Concat_api_Value_api_Value_L0 (Sp.slices_Concat_api_Value_api_Value_L0  n) F) := by
  intro c v γ K q h
  unfold P_slices_Concat_api_Value_api_Value_L0 at h
  split at h
  · exact E0_slices_Concat_api_Value_api_Value_L0 p   n _ _ _ _ _ h
  · exact hF _ _ _ _ _ h
abbrev Ty_slices_Concat_api_Value_api_Value_L2 : Type 1 := List (List Dat) → Int → List (List Dat) → Int → (γ : Type) → (Ex → List (List Dat) → Int → Option γ) → Option γ
def P_slices_Concat_api_Value_api_Value_L2 (X : Ty_slices_Concat_api_Value_api_Value_L2) (F : Loop3) : Loop3 := fun a s γ K => match a, s with
  | [AVal.dat (Dat.sl v_), AVal.dat (Dat.int IntKind.i64 v__1)], ([AVal.dat (Dat.sl v_newslice), AVal.dat (Dat.int IntKind.i64 v__2)], []) => X v_ v__1 v_newslice v__2 γ (fun e x0 x1 => K (e, ([AVal.dat (Dat.sl x0), AVal.dat (Dat.int IntKind.i64 x1)], [])))
  | a, s => F a s γ K
def T_slices_Concat_api_Value_api_Value_L2  : CallK := noneK
def L_slices_Concat_api_Value_api_Value_L2  : LoopK := noneL
def Sp.B_slices_Concat_api_Value_api_Value_L2 (x_slices_Concat_api_Value_api_Value_L2 : Ty_slices_Concat_api_Value_api_Value_L2)  (v_ : List (List Dat)) (v__1 : Int) (v_newslice : List (List Dat)) (v__2 : Int) (γ : Type) (K : Ex → List (List Dat) → Int → Option γ) : Option γ := bif sized v_newslice 3 then bif decide (v__2 < v__1) then elemAt v_ v__2 fun (z6 : List Dat) => bif List.length z6 == 1 then cellAt z6 0 fun (z7 : Dat) => asSl z7 fun (z8 : List (List Dat)) => bif sized v_newslice 3 && sized z8 3 && true && decide ((List.length v_newslice + List.length z8) * 33 ≤ 70368744177664) && true then x_slices_Concat_api_Value_api_Value_L2 v_ v__1 (v_newslice ++ z8) (IntKind.wrap IntKind.i64 (v__2 + 1)) γ K else none else none else K (Ex.exit 2) v_newslice v__2 else none
theorem e_slices_Concat_api_Value_api_Value_L2 (p : Par) (x_slices_Concat_api_Value_api_Value_L2 : Ty_slices_Concat_api_Value_api_Value_L2)  (v_ : List (List Dat)) (v__1 : Int) (v_newslice : List (List Dat)) (v__2 : Int) (γ : Type) (K : Ex × Vars → Option γ) : roundK (cfg p) (T_slices_Concat_api_Value_api_Value_L2 ) (L_slices_Concat_api_Value_api_Value_L2 ) 49 2 [AVal.dat (Dat.sl v_), AVal.dat (Dat.int IntKind.i64 v__1)] ([AVal.dat (Dat.sl v_newslice), AVal.dat (Dat.int IntKind.i64 v__2)], []) γ (contL (fun v => P_slices_Concat_api_Value_api_Value_L2 x_slices_Concat_api_Value_api_Value_L2 noneL3 [AVal.dat (Dat.sl v_), AVal.dat (Dat.int IntKind.i64 v__1)] v γ K) K) = Sp.B_slices_Concat_api_Value_api_Value_L2 x_slices_Concat_api_Value_api_Value_L2  v_ v__1 v_newslice v__2 γ (fun e x0 x1 => K (e, ([AVal.dat (Dat.sl x0), AVal.dat (Dat.int IntKind.i64 x1)], []))) := by kernel_rfl
def Sp.slices_Concat_api_Value_api_Value_L2 : Nat → Ty_slices_Concat_api_Value_api_Value_L2
  | 0 => fun _ _ _ _ _ _ => none
  | n + 1 => Sp.B_slices_Concat_api_Value_api_Value_L2 (Sp.slices_Concat_api_Value_api_Value_L2 n) 
theorem E0_slices_Concat_api_Value_api_Value_L2 (p : Par)   : ∀ n, EntOkL (cfg p) 49 2 (P_slices_Concat_api_Value_api_Value_L2 (Sp.slices_Concat_api_Value_api_Value_L2  n) noneL3) := entL_rounds (tab_nil _) (by kernel_rfl) (fun c v γ K => by unfold P_slices_Concat_api_Value_api_Value_L2; split <;> rfl) fun n c v γ K q h => by
  unfold P_slices_Concat_api_Value_api_Value_L2 at h
  split at h
  · exact (e_slices_Concat_api_Value_api_Value_L2 p _  _ _ _ _ _ _).trans h
  · cases h
theorem E_slices_Concat_api_Value_api_Value_L2 (p : Par)   (n : Nat) {F : Loop3} (hF : EntOkL (cfg p) 49 2 F) : EntOkL (cfg p) 49 2 (P_slices_Concat_api_Value_api_Value_L2 (Sp.slices_Concat_api_Value_api_Value_L2  n) F) := by
  intro c v γ K q h
  unfold P_slices_Concat_api_Value_api_Value_L2 at h
  split at h
  · exact E0_slices_Concat_api_Value_api_Value_L2 p   n _ _ _ _ _ h
  · exact hF _ _ _ _ _ h
abbrev Ty_slices_Concat_api_Value_api_Value : Type 1 := List (List Dat) → (γ : Type) → (List (List Dat) → Option γ) → Option γ
def P_slices_Concat_api_Value_api_Value (X : Ty_slices_Concat_api_Value_api_Value) (F : Ent3) : Ent3 := fun a s γ K => match a, s with
  | [AVal.dat (Dat.sl v_slices)], [] => X v_slices γ (fun r0 => K ([(AVal.dat (Dat.sl r0), Own.none)], []))
  | a, s => F a s γ K
def T_slices_Concat_api_Value_api_Value (x_slices_Concat_api_Value_api_Value_L0 : Ty_slices_Concat_api_Value_api_Value_L0) (x_slices_Concat_api_Value_api_Value_L2 : Ty_slices_Concat_api_Value_api_Value_L2) : CallK := noneK
def L_slices_Concat_api_Value_api_Value (x_slices_Concat_api_Value_api_Value_L0 : Ty_slices_Concat_api_Value_api_Value_L0) (x_slices_Concat_api_Value_api_Value_L2 : Ty_slices_Concat_api_Value_api_Value_L2) : LoopK := (addL (addL noneL 49 0 (P_slices_Concat_api_Value_api_Value_L0 x_slices_Concat_api_Value_api_Value_L0 noneL3)) 49 2 (P_slices_Concat_api_Value_api_Value_L2 x_slices_Concat_api_Value_api_Value_L2 noneL3))
def Sp.B_slices_Concat_api_Value_api_Value (x_slices_Concat_api_Value_api_Value_L0 : Ty_slices_Concat_api_Value_api_Value_L0) (x_slices_Concat_api_Value_api_Value_L2 : Ty_slices_Concat_api_Value_api_Value_L2) (v_slices : List (List Dat)) (γ : Type) (K : List (List Dat) → Option γ) : Option γ := x_slices_Concat_api_Value_api_Value_L0 v_slices v_slices (Int.ofNat (List.length v_slices)) 0 0 γ fun (z3 : Ex) (z4 z5 : Int) => bif Ex.isExit z3 0 then bif decide (0 ≤ z4) && decide (Int.toNat z4 * 33 ≤ 70368744177664) && true then x_slices_Concat_api_Value_api_Value_L2 v_slices (Int.ofNat (List.length v_slices)) [] 0 γ fun (z7 : Ex) (z8 : List (List Dat)) (z9 : Int) => bif sized z8 3 then bif Ex.isExit z7 2 then K z8 else bif Ex.isRet z7 then none else none else none else none else bif Ex.isRet z3 then none else none
theorem e_slices_Concat_api_Value_api_Value (p : Par) (x_slices_Concat_api_Value_api_Value_L0 : Ty_slices_Concat_api_Value_api_Value_L0) (x_slices_Concat_api_Value_api_Value_L2 : Ty_slices_Concat_api_Value_api_Value_L2) (v_slices : List (List Dat)) (γ : Type) (K : List Ent × Sig → Option γ) : evFK (cfg p) (T_slices_Concat_api_Value_api_Value x_slices_Concat_api_Value_api_Value_L0 x_slices_Concat_api_Value_api_Value_L2) (L_slices_Concat_api_Value_api_Value x_slices_Concat_api_Value_api_Value_L0 x_slices_Concat_api_Value_api_Value_L2) 49 [AVal.dat (Dat.sl v_slices)] [] γ K = Sp.B_slices_Concat_api_Value_api_Value x_slices_Concat_api_Value_api_Value_L0 x_slices_Concat_api_Value_api_Value_L2 v_slices γ (fun r0 => K ([(AVal.dat (Dat.sl r0), Own.none)], [])) := by kernel_rfl
def Sp.slices_Concat_api_Value_api_Value : Ty_slices_Concat_api_Value_api_Value := Sp.B_slices_Concat_api_Value_api_Value (Sp.slices_Concat_api_Value_api_Value_L0 fuel) (Sp.slices_Concat_api_Value_api_Value_L2 fuel)
theorem E_slices_Concat_api_Value_api_Value (p : Par) {F : Ent3} (hF : EntOk (cfg p) 49 F) : EntOk (cfg p) 49 (P_slices_Concat_api_Value_api_Value Sp.slices_Concat_api_Value_api_Value F) := by
  intro a s γ K q h
  unfold P_slices_Concat_api_Value_api_Value at h
  split at h
  · exact body_ok (tab_loop (tab_loop (tab_nil _) (E_slices_Concat_api_Value_api_Value_L0 p fuel (entL_none _ _ _))) (E_slices_Concat_api_Value_api_Value_L2 p fuel (entL_none _ _ _))) rfl ((e_slices_Concat_api_Value_api_Value p _ _ _ _ _).trans h)
  · exact hF _ _ _ _ _ h
abbrev Ty_row_Join : Type 1 := List (List Dat) → List (List Dat) → (γ : Type) → (List (List Dat) → Int → Option γ) → Option γ
def P_row_Join (X : Ty_row_Join) (F : Ent3) : Ent3 := fun a s γ K => match a, s with
  | [AVal.dat (Dat.sl v_a), AVal.dat (Dat.sl v_b)], [] => X v_a v_b γ (fun r0 r1 => K ([(AVal.dat (Dat.sl r0), Own.none), (AVal.dat (Dat.int IntKind.i64 r1), Own.none)], []))
  | a, s => F a s γ K
def T_row_Join (x_slices_Concat_api_Value_api_Value : Ty_slices_Concat_api_Value_api_Value) : CallK := (addK noneK 49 (P_slices_Concat_api_Value_api_Value x_slices_Concat_api_Value_api_Value none3))
def L_row_Join (x_slices_Concat_api_Value_api_Value : Ty_slices_Concat_api_Value_api_Value) : LoopK := noneL
def Sp.B_row_Join (x_slices_Concat_api_Value_api_Value : Ty_slices_Concat_api_Value_api_Value) (v_a : List (List Dat)) (v_b : List (List Dat)) (γ : Type) (K : List (List Dat) → Int → Option γ) : Option γ := bif decide (32 < IntKind.wrap IntKind.i64 (Int.ofNat (List.length v_a) + Int.ofNat (List.length v_b))) then K [] 3 else x_slices_Concat_api_Value_api_Value [[Dat.sl v_a], [Dat.sl v_b]] γ fun (z4 : List (List Dat)) => K z4 0
theorem e_row_Join (p : Par) (x_slices_Concat_api_Value_api_Value : Ty_slices_Concat_api_Value_api_Value) (v_a : List (List Dat)) (v_b : List (List Dat)) (γ : Type) (K : List Ent × Sig → Option γ) : evFK (cfg p) (T_row_Join x_slices_Concat_api_Value_api_Value) (L_row_Join x_slices_Concat_api_Value_api_Value) 24 [AVal.dat (Dat.sl v_a), AVal.dat (Dat.sl v_b)] [] γ K = Sp.B_row_Join x_slices_Concat_api_Value_api_Value v_a v_b γ (fun r0 r1 => K ([(AVal.dat (Dat.sl r0), Own.none), (AVal.dat (Dat.int IntKind.i64 r1), Own.none)], [])) := by kernel_rfl
def Sp.row_Join : Ty_row_Join := Sp.B_row_Join Sp.slices_Concat_api_Value_api_Value
theorem E_row_Join (p : Par) {F : Ent3} (hF : EntOk (cfg p) 24 F) : EntOk (cfg p) 24 (P_row_Join Sp.row_Join F) := by
  intro a s γ K q h
  unfold P_row_Join at h
  split at h
  · exact body_ok (tab_call (tab_nil _) (E_slices_Concat_api_Value_api_Value p (ent_none _ _))) rfl ((e_row_Join p _ _ _ _ _).trans h)
  · exact hF _ _ _ _ _ h
abbrev Ty_row_Nulls : Type 1 := Int → (γ : Type) → (List (List Dat) → Int → Option γ) → Option γ
def P_row_Nulls (X : Ty_row_Nulls) (F : Ent3) : Ent3 := fun a s γ K => match a, s with
  | [AVal.dat (Dat.int IntKind.i64 v_n)], [] => X v_n γ (fun r0 r1 => K ([(AVal.dat (Dat.sl r0), Own.none), (AVal.dat (Dat.int IntKind.i64 r1), Own.none)], []))
  | a, s => F a s γ K
def T_row_Nulls  : CallK := noneK
def L_row_Nulls  : LoopK := noneL
def Sp.B_row_Nulls  (v_n : Int) (γ : Type) (K : List (List Dat) → Int → Option γ) : Option γ := bif decide (v_n < 0) then K [] 1 else bif decide (32 < v_n) then K [] 1 else bif decide (0 ≤ v_n) && decide (v_n ≤ v_n) && decide (v_n * 33 ≤ 70368744177664) && true && true then K (List.replicate (Int.toNat v_n) [Dat.int IntKind.i64 0, Dat.int IntKind.i64 0, Dat.str (bs [])]) 0 else none
theorem e_row_Nulls (p : Par)  (v_n : Int) (γ : Type) (K : List Ent × Sig → Option γ) : evFK (cfg p) (T_row_Nulls ) (L_row_Nulls ) 25 [AVal.dat (Dat.int IntKind.i64 v_n)] [] γ K = Sp.B_row_Nulls  v_n γ (fun r0 r1 => K ([(AVal.dat (Dat.sl r0), Own.none), (AVal.dat (Dat.int IntKind.i64 r1), Own.none)], [])) := by kernel_rfl
def Sp.row_Nulls : Ty_row_Nulls := Sp.B_row_Nulls 
theorem E_row_Nulls (p : Par) {F : Ent3} (hF : EntOk (cfg p) 25 F) : EntOk (cfg p) 25 (P_row_Nulls Sp.row_Nulls F) := by
  intro a s γ K q h
  unfold P_row_Nulls at h
  split at h
  · exact body_ok (tab_nil _) rfl ((e_row_Nulls p  _ _ _).trans h)
  · exact hF _ _ _ _ _ h
abbrev Ty_row_Sort : Type 1 := List (List Dat) → (γ : Type) → (List (List Dat) → Option γ) → Option γ
def P_row_Sort (X : Ty_row_Sort) (F : Ent3) : Ent3 := fun a s γ K => match a, s with
  | [AVal.dat (Dat.sl v_l)], [] => X v_l γ (fun x0 => K ([(AVal.dat (Dat.sl x0), Own.none)], []))
  | a, s => F a s γ K
def Sp.row_Sort : Ty_row_Sort := fun v_l γ K => bif Sp.rowsOk v_l && decide (List.length v_l ≤ 16777216) then K (Sp.sortRows v_l) else none
theorem e_row_Sort (v_l : List (List Dat)) (γ : Type) (K : List Ent × Sig → Option γ) : Go.Aev.sortS [AVal.dat (Dat.sl v_l)] [] γ K = Sp.row_Sort v_l γ (fun x0 => K ([(AVal.dat (Dat.sl x0), Own.none)], [])) := by kernel_rfl
theorem E_row_Sort (p : Par) {F : Ent3} (hF : EntOk (cfg p) 27 F) : EntOk (cfg p) 27 (P_row_Sort Sp.row_Sort F) := by
  intro a s γ K q h
  unfold P_row_Sort at h
  split at h
  · exact ent_primS (S := Go.Aev.sortS) rfl Go.Aev.sortS_cps _ _ _ _ _ ((e_row_Sort _ _ _).trans h)
  · exact hF _ _ _ _ _ h
abbrev Ty_slices_Equal_api_Value_api_Value_L0 : Type 1 := List (List Dat) → List (List Dat) → Int → Bool → Int → (γ : Type) → (Ex → Bool → Int → Option γ) → Option γ
def P_slices_Equal_api_Value_api_Value_L0 (X : Ty_slices_Equal_api_Value_api_Value_L0) (F : Loop3) : Loop3 := fun a s γ K => match a, s with
  | [AVal.dat (Dat.sl v_s1), AVal.dat (Dat.sl v_s2), AVal.dat (Dat.int IntKind.i64 v_)], ([AVal.dat (Dat.bool v__1), AVal.dat (Dat.int IntKind.i64 v__2)], []) => X v_s1 v_s2 v_ v__1 v__2 γ (fun e x0 x1 => K (e, ([AVal.dat (Dat.bool x0), AVal.dat (Dat.int IntKind.i64 x1)], [])))
  | a, s => F a s γ K
def T_slices_Equal_api_Value_api_Value_L0  : CallK := noneK
def L_slices_Equal_api_Value_api_Value_L0  : LoopK := noneL
def Sp.B_slices_Equal_api_Value_api_Value_L0 (x_slices_Equal_api_Value_api_Value_L0 : Ty_slices_Equal_api_Value_api_Value_L0)  (v_s1 : List (List Dat)) (v_s2 : List (List Dat)) (v_ : Int) (v__1 : Bool) (v__2 : Int) (γ : Type) (K : Ex → Bool → Int → Option γ) : Option γ := bif decide (v__2 < v_) then elemAt v_s1 v__2 fun (z7 : List Dat) => bif List.length z7 == 3 then cellAt z7 0 fun (z8 : Dat) => Aev.asInt IntKind.i64 z8 fun (z9 : Int) => cellAt z7 1 fun (z10 : Dat) => Aev.asInt IntKind.i64 z10 fun (z11 : Int) => cellAt z7 2 fun (z12 : Dat) => asStr z12 fun (z13 : ByteArray) => elemAt v_s2 v__2 fun (z14 : List Dat) => bif List.length z14 == 3 then cellAt z14 0 fun (z15 : Dat) => Aev.asInt IntKind.i64 z15 fun (z16 : Int) => cellAt z14 1 fun (z17 : Dat) => Aev.asInt IntKind.i64 z17 fun (z18 : Int) => cellAt z14 2 fun (z19 : Dat) => asStr z19 fun (z20 : ByteArray) => bif !(decide (z9 = z16) && (decide (z11 = z18) && (decide (z13 = z20) && true))) then K Ex.ret false v__2 else x_slices_Equal_api_Value_api_Value_L0 v_s1 v_s2 v_ v__1 (IntKind.wrap IntKind.i64 (v__2 + 1)) γ K else none else none else K (Ex.exit 0) v__1 v__2
theorem e_slices_Equal_api_Value_api_Value_L0 (p : Par) (x_slices_Equal_api_Value_api_Value_L0 : Ty_slices_Equal_api_Value_api_Value_L0)  (v_s1 : List (List Dat)) (v_s2 : List (List Dat)) (v_ : Int) (v__1 : Bool) (v__2 : Int) (γ : Type) (K : Ex × Vars → Option γ) : roundK (cfg p) (T_slices_Equal_api_Value_api_Value_L0 ) (L_slices_Equal_api_Value_api_Value_L0 ) 39 0 [AVal.dat (Dat.sl v_s1), AVal.dat (Dat.sl v_s2), AVal.dat (Dat.int IntKind.i64 v_)] ([AVal.dat (Dat.bool v__1), AVal.dat (Dat.int IntKind.i64 v__2)], []) γ (contL (fun v => P_slices_Equal_api_Value_api_Value_L0 x_slices_Equal_api_Value_api_Value_L0 noneL3 [AVal.dat (Dat.sl v_s1), AVal.dat (Dat.sl v_s2), AVal.dat (Dat.int IntKind.i64 v_)] v γ K) K) = Sp.B_slices_Equal_api_Value_api_Value_L0 x_slices_Equal_api_Value_api_Value_L0  v_s1 v_s2 v_ v__1 v__2 γ (fun e x0 x1 => K (e, ([AVal.dat (Dat.bool x0), AVal.dat (Dat.int IntKind.i64 x1)], []))) := by kernel_rfl
def Sp.slices_Equal_api_Value_api_Value_L0 : Nat → Ty_slices_Equal_api_Value_api_Value_L0
  | 0 => fun _ _ _ _ _ _ _ => none
  | n + 1 => Sp.B_slices_Equal_api_Value_api_Value_L0 (Sp.slices_Equal_api_Value_api_Value_L0 n) 
theorem E0_slices_Equal_api_Value_api_Value_L0 (p : Par)   : ∀ n, EntOkL (cfg p) 39 0 (P_slices_Equal_api_Value_api_Value_L0 (Sp.slices_Equal_api_Value_api_Value_L0  n) noneL3) := entL_rounds (tab_nil _) (by kernel_rfl) (fun c v γ K => by unfold P_slices_Equal_api_Value_api_Value_L0; split <;> rfl) fun n c v γ K q h => by
  unfold P_slices_Equal_api_Value_api_Value_L0 at h
  split at h
  · exact (e_slices_Equal_api_Value_api_Value_L0 p _  _ _ _ _ _ _ _).trans h
  · cases h
theorem E_slices_Equal_api_Value_api_Value_L0 (p : Par)   (n : Nat) {F : Loop3} (hF : EntOkL (cfg p) 39 0 F) : EntOkL (cfg p) 39 0 (P_slices_Equal_api_Value_api_Value_L0 (Sp.slices_Equal_api_Value_api_Value_L0  n) F) := by
  intro c v γ K q h
  unfold P_slices_Equal_api_Value_api_Value_L0 at h
  split at h
  · exact E0_slices_Equal_api_Value_api_Value_L0 p   n _ _ _ _ _ h
  · exact hF _ _ _ _ _ h
abbrev Ty_slices_Equal_api_Value_api_Value : Type 1 := List (List Dat) → List (List Dat) → (γ : Type) → (Bool → Option γ) → Option γ
def P_slices_Equal_api_Value_api_Value (X : Ty_slices_Equal_api_Value_api_Value) (F : Ent3) : Ent3 := fun a s γ K => match a, s with
  | [AVal.dat (Dat.sl v_s1), AVal.dat (Dat.sl v_s2)], [] => X v_s1 v_s2 γ (fun r0 => K ([(AVal.dat (Dat.bool r0), Own.none)], []))
  | a, s => F a s γ K
def T_slices_Equal_api_Value_api_Value (x_slices_Equal_api_Value_api_Value_L0 : Ty_slices_Equal_api_Value_api_Value_L0) : CallK := noneK
def L_slices_Equal_api_Value_api_Value (x_slices_Equal_api_Value_api_Value_L0 : Ty_slices_Equal_api_Value_api_Value_L0) : LoopK := (addL noneL 39 0 (P_slices_Equal_api_Value_api_Value_L0 x_slices_Equal_api_Value_api_Value_L0 noneL3))
def Sp.B_slices_Equal_api_Value_api_Value (x_slices_Equal_api_Value_api_Value_L0 : Ty_slices_Equal_api_Value_api_Value_L0) (v_s1 : List (List Dat)) (v_s2 : List (List Dat)) (γ : Type) (K : Bool → Option γ) : Option γ := bif !decide (Int.ofNat (List.length v_s1) = Int.ofNat (List.length v_s2)) then K false else x_slices_Equal_api_Value_api_Value_L0 v_s1 v_s2 (Int.ofNat (List.length v_s1)) false 0 γ fun (z4 : Ex) (z5 : Bool) (z6 : Int) => bif Ex.isExit z4 0 then K true else bif Ex.isRet z4 then K z5 else none
theorem e_slices_Equal_api_Value_api_Value (p : Par) (x_slices_Equal_api_Value_api_Value_L0 : Ty_slices_Equal_api_Value_api_Value_L0) (v_s1 : List (List Dat)) (v_s2 : List (List Dat)) (γ : Type) (K : List Ent × Sig → Option γ) : evFK (cfg p) (T_slices_Equal_api_Value_api_Value x_slices_Equal_api_Value_api_Value_L0) (L_slices_Equal_api_Value_api_Value x_slices_Equal_api_Value_api_Value_L0) 39 [AVal.dat (Dat.sl v_s1), AVal.dat (Dat.sl v_s2)] [] γ K = Sp.B_slices_Equal_api_Value_api_Value x_slices_Equal_api_Value_api_Value_L0 v_s1 v_s2 γ (fun r0 => K ([(AVal.dat (Dat.bool r0), Own.none)], [])) := by kernel_rfl
def Sp.slices_Equal_api_Value_api_Value : Ty_slices_Equal_api_Value_api_Value := Sp.B_slices_Equal_api_Value_api_Value (Sp.slices_Equal_api_Value_api_Value_L0 fuel)
theorem E_slices_Equal_api_Value_api_Value (p : Par) {F : Ent3} (hF : EntOk (cfg p) 39 F) : EntOk (cfg p) 39 (P_slices_Equal_api_Value_api_Value Sp.slices_Equal_api_Value_api_Value F) := by
  intro a s γ K q h
  unfold P_slices_Equal_api_Value_api_Value at h
  split at h
  · exact body_ok (tab_loop (tab_nil _) (E_slices_Equal_api_Value_api_Value_L0 p fuel (entL_none _ _ _))) rfl ((e_slices_Equal_api_Value_api_Value p _ _ _ _ _).trans h)
  · exact hF _ _ _ _ _ h
abbrev Ty_row_Same : Type 1 := List (List Dat) → List (List Dat) → (γ : Type) → (Bool → Option γ) → Option γ
def P_row_Same (X : Ty_row_Same) (F : Ent3) : Ent3 := fun a s γ K => match a, s with
  | [AVal.dat (Dat.sl v_a), AVal.dat (Dat.sl v_b)], [] => X v_a v_b γ (fun r0 => K ([(AVal.dat (Dat.bool r0), Own.none)], []))
  | a, s => F a s γ K
def T_row_Same (x_slices_Equal_api_Value_api_Value : Ty_slices_Equal_api_Value_api_Value) : CallK := (addK noneK 39 (P_slices_Equal_api_Value_api_Value x_slices_Equal_api_Value_api_Value none3))
def L_row_Same (x_slices_Equal_api_Value_api_Value : Ty_slices_Equal_api_Value_api_Value) : LoopK := noneL
def Sp.B_row_Same (x_slices_Equal_api_Value_api_Value : Ty_slices_Equal_api_Value_api_Value) (v_a : List (List Dat)) (v_b : List (List Dat)) (γ : Type) (K : Bool → Option γ) : Option γ := x_slices_Equal_api_Value_api_Value v_a v_b γ fun (z4 : Bool) => K z4
theorem e_row_Same (p : Par) (x_slices_Equal_api_Value_api_Value : Ty_slices_Equal_api_Value_api_Value) (v_a : List (List Dat)) (v_b : List (List Dat)) (γ : Type) (K : List Ent × Sig → Option γ) : evFK (cfg p) (T_row_Same x_slices_Equal_api_Value_api_Value) (L_row_Same x_slices_Equal_api_Value_api_Value) 16 [AVal.dat (Dat.sl v_a), AVal.dat (Dat.sl v_b)] [] γ K = Sp.B_row_Same x_slices_Equal_api_Value_api_Value v_a v_b γ (fun r0 => K ([(AVal.dat (Dat.bool r0), Own.none)], [])) := by kernel_rfl
def Sp.row_Same : Ty_row_Same := Sp.B_row_Same Sp.slices_Equal_api_Value_api_Value
theorem E_row_Same (p : Par) {F : Ent3} (hF : EntOk (cfg p) 16 F) : EntOk (cfg p) 16 (P_row_Same Sp.row_Same F) := by
  intro a s γ K q h
  unfold P_row_Same at h
  split at h
  · exact body_ok (tab_call (tab_nil _) (E_slices_Equal_api_Value_api_Value p (ent_none _ _))) rfl ((e_row_Same p _ _ _ _ _).trans h)
  · exact hF _ _ _ _ _ h
abbrev Ty_row_size : Type 1 := Int → Int → ByteArray → (γ : Type) → (Int → Option γ) → Option γ
def P_row_size (X : Ty_row_size) (F : Ent3) : Ent3 := fun a s γ K => match a, s with
  | [AVal.agg [(Dat.int IntKind.i64 v_v0, Own.none), (Dat.int IntKind.i64 v_v1, Own.none), (Dat.str v_v2, Own.none)]], [] => X v_v0 v_v1 v_v2 γ (fun r0 => K ([(AVal.dat (Dat.int IntKind.i64 r0), Own.none)], []))
  | a, s => F a s γ K
def T_row_size  : CallK := noneK
def L_row_size  : LoopK := noneL
def Sp.B_row_size  (v_v0 : Int) (v_v1 : Int) (v_v2 : ByteArray) (γ : Type) (K : Int → Option γ) : Option γ := bif decide (v_v0 = 1) then K 2 else bif decide (v_v0 = 2) then K 8 else bif decide (v_v0 = 3) then K (IntKind.wrap IntKind.i64 (2 + Int.ofNat (ByteArray.size v_v2))) else K 1
theorem e_row_size (p : Par)  (v_v0 : Int) (v_v1 : Int) (v_v2 : ByteArray) (γ : Type) (K : List Ent × Sig → Option γ) : evFK (cfg p) (T_row_size ) (L_row_size ) 36 [AVal.agg [(Dat.int IntKind.i64 v_v0, Own.none), (Dat.int IntKind.i64 v_v1, Own.none), (Dat.str v_v2, Own.none)]] [] γ K = Sp.B_row_size  v_v0 v_v1 v_v2 γ (fun r0 => K ([(AVal.dat (Dat.int IntKind.i64 r0), Own.none)], [])) := by kernel_rfl
def Sp.row_size : Ty_row_size := Sp.B_row_size 
theorem E_row_size (p : Par) {F : Ent3} (hF : EntOk (cfg p) 36 F) : EntOk (cfg p) 36 (P_row_size Sp.row_size F) := by
  intro a s γ K q h
  unfold P_row_size at h
  split at h
  · exact body_ok (tab_nil _) rfl ((e_row_size p  _ _ _ _ _).trans h)
  · exact hF _ _ _ _ _ h
abbrev Ty_row_Size_L0 : Type 1 := List (List Dat) → Int → Int → Int → (γ : Type) → (Ex → Int → Int → Option γ) → Option γ
def P_row_Size_L0 (X : Ty_row_Size_L0) (F : Loop3) : Loop3 := fun a s γ K => match a, s with
  | [AVal.dat (Dat.sl v_), AVal.dat (Dat.int IntKind.i64 v__1)], ([AVal.dat (Dat.int IntKind.i64 v_n), AVal.dat (Dat.int IntKind.i64 v__2)], []) => X v_ v__1 v_n v__2 γ (fun e x0 x1 => K (e, ([AVal.dat (Dat.int IntKind.i64 x0), AVal.dat (Dat.int IntKind.i64 x1)], [])))
  | a, s => F a s γ K
def T_row_Size_L0 (x_row_size : Ty_row_size) : CallK := (addK noneK 36 (P_row_size x_row_size none3))
def L_row_Size_L0 (x_row_size : Ty_row_size) : LoopK := noneL
def Sp.B_row_Size_L0 (x_row_Size_L0 : Ty_row_Size_L0) (x_row_size : Ty_row_size) (v_ : List (List Dat)) (v__1 : Int) (v_n : Int) (v__2 : Int) (γ : Type) (K : Ex → Int → Int → Option γ) : Option γ := bif decide (v__2 < v__1) then elemAt v_ v__2 fun (z6 : List Dat) => bif List.length z6 == 3 then cellAt z6 0 fun (z7 : Dat) => Aev.asInt IntKind.i64 z7 fun (z8 : Int) => cellAt z6 1 fun (z9 : Dat) => Aev.asInt IntKind.i64 z9 fun (z10 : Int) => cellAt z6 2 fun (z11 : Dat) => asStr z11 fun (z12 : ByteArray) => x_row_size z8 z10 z12 γ fun (z13 : Int) => x_row_Size_L0 v_ v__1 (IntKind.wrap IntKind.i64 (v_n + z13)) (IntKind.wrap IntKind.i64 (v__2 + 1)) γ K else none else K (Ex.exit 0) v_n v__2
theorem e_row_Size_L0 (p : Par) (x_row_Size_L0 : Ty_row_Size_L0) (x_row_size : Ty_row_size) (v_ : List (List Dat)) (v__1 : Int) (v_n : Int) (v__2 : Int) (γ : Type) (K : Ex × Vars → Option γ) : roundK (cfg p) (T_row_Size_L0 x_row_size) (L_row_Size_L0 x_row_size) 13 0 [AVal.dat (Dat.sl v_), AVal.dat (Dat.int IntKind.i64 v__1)] ([AVal.dat (Dat.int IntKind.i64 v_n), AVal.dat (Dat.int IntKind.i64 v__2)], []) γ (contL (fun v => P_row_Size_L0 x_row_Size_L0 noneL3 [AVal.dat (Dat.sl v_), AVal.dat (Dat.int IntKind.i64 v__1)] v γ K) K) = Sp.B_row_Size_L0 x_row_Size_L0 x_row_size v_ v__1 v_n v__2 γ (fun e x0 x1 => K (e, ([AVal.dat (Dat.int IntKind.i64 x0), AVal.dat (Dat.int IntKind.i64 x1)], []))) := by kernel_rfl
def Sp.row_Size_L0 : Nat → Ty_row_Size_L0
  | 0 => fun _ _ _ _ _ _ => none
  | n + 1 => Sp.B_row_Size_L0 (Sp.row_Size_L0 n) Sp.row_size
theorem E0_row_Size_L0 (p : Par)   : ∀ n, EntOkL (cfg p) 13 0 (P_row_Size_L0 (Sp.row_Size_L0  n) noneL3) := entL_rounds (tab_call (tab_nil _) (E_row_size p (ent_none _ _))) (by kernel_rfl) (fun c v γ K => by unfold P_row_Size_L0; split <;> rfl) fun n c v γ K q h => by
  unfold P_row_Size_L0 at h
  split at h
  · exact (e_row_Size_L0 p _ _ _ _ _ _ _ _).trans h
  · cases h
theorem E_row_Size_L0 (p : Par)   (n : Nat) {F : Loop3} (hF : EntOkL (cfg p) 13 0 F) : EntOkL (cfg p) 13 0 (P_row_Size_L0 (Sp.row_Size_L0  n) F) := by
  intro c v γ K q h
  unfold P_row_Size_L0 at h
  split at h
  · exact E0_row_Size_L0 p   n _ _ _ _ _ h
  · exact hF _ _ _ _ _ h
abbrev Ty_row_Size : Type 1 := List (List Dat) → (γ : Type) → (Int → Option γ) → Option γ
def P_row_Size (X : Ty_row_Size) (F : Ent3) : Ent3 := fun a s γ K => match a, s with
  | [AVal.dat (Dat.sl v_r)], [] => X v_r γ (fun r0 => K ([(AVal.dat (Dat.int IntKind.i64 r0), Own.none)], []))
  | a, s => F a s γ K
def T_row_Size (x_row_Check : Ty_row_Check) (x_row_Size_L0 : Ty_row_Size_L0) : CallK := (addK noneK 12 (P_row_Check x_row_Check none3))
def L_row_Size (x_row_Check : Ty_row_Check) (x_row_Size_L0 : Ty_row_Size_L0) : LoopK := (addL noneL 13 0 (P_row_Size_L0 x_row_Size_L0 noneL3))
def Sp.B_row_Size (x_row_Check : Ty_row_Check) (x_row_Size_L0 : Ty_row_Size_L0) (v_r : List (List Dat)) (γ : Type) (K : Int → Option γ) : Option γ := x_row_Check v_r γ fun (z3 : Int) => bif !decide (z3 = 0) then K 0 else x_row_Size_L0 v_r (Int.ofNat (List.length v_r)) 1 0 γ fun (z4 : Ex) (z5 z6 : Int) => bif Ex.isExit z4 0 then K z5 else bif Ex.isRet z4 then none else none
theorem e_row_Size (p : Par) (x_row_Check : Ty_row_Check) (x_row_Size_L0 : Ty_row_Size_L0) (v_r : List (List Dat)) (γ : Type) (K : List Ent × Sig → Option γ) : evFK (cfg p) (T_row_Size x_row_Check x_row_Size_L0) (L_row_Size x_row_Check x_row_Size_L0) 13 [AVal.dat (Dat.sl v_r)] [] γ K = Sp.B_row_Size x_row_Check x_row_Size_L0 v_r γ (fun r0 => K ([(AVal.dat (Dat.int IntKind.i64 r0), Own.none)], [])) := by kernel_rfl
def Sp.row_Size : Ty_row_Size := Sp.B_row_Size Sp.row_Check (Sp.row_Size_L0 fuel)
theorem E_row_Size (p : Par) {F : Ent3} (hF : EntOk (cfg p) 13 F) : EntOk (cfg p) 13 (P_row_Size Sp.row_Size F) := by
  intro a s γ K q h
  unfold P_row_Size at h
  split at h
  · exact body_ok (tab_loop (tab_call (tab_nil _) (E_row_Check p (ent_none _ _))) (E_row_Size_L0 p fuel (entL_none _ _ _))) rfl ((e_row_Size p _ _ _ _ _).trans h)
  · exact hF _ _ _ _ _ h
abbrev Ty_value_Null : Type 1 := (γ : Type) → (Int → Int → ByteArray → Option γ) → Option γ
def P_value_Null (X : Ty_value_Null) (F : Ent3) : Ent3 := fun a s γ K => match a, s with
  | [], [] => X  γ (fun r0 r1 r2 => K ([(AVal.agg [(Dat.int IntKind.i64 r0, Own.none), (Dat.int IntKind.i64 r1, Own.none), (Dat.str r2, Own.none)], Own.none)], []))
  | a, s => F a s γ K
def T_value_Null  : CallK := noneK
def L_value_Null  : LoopK := noneL
def Sp.B_value_Null   (γ : Type) (K : Int → Int → ByteArray → Option γ) : Option γ := K 0 0 (bs [])
theorem e_value_Null (p : Par)   (γ : Type) (K : List Ent × Sig → Option γ) : evFK (cfg p) (T_value_Null ) (L_value_Null ) 56 [] [] γ K = Sp.B_value_Null   γ (fun r0 r1 r2 => K ([(AVal.agg [(Dat.int IntKind.i64 r0, Own.none), (Dat.int IntKind.i64 r1, Own.none), (Dat.str r2, Own.none)], Own.none)], [])) := by kernel_rfl
def Sp.value_Null : Ty_value_Null := Sp.B_value_Null 
theorem E_value_Null (p : Par) {F : Ent3} (hF : EntOk (cfg p) 56 F) : EntOk (cfg p) 56 (P_value_Null Sp.value_Null F) := by
  intro a s γ K q h
  unfold P_value_Null at h
  split at h
  · exact body_ok (tab_nil _) rfl ((e_value_Null p  _ _ ).trans h)
  · exact hF _ _ _ _ _ h
abbrev Ty_row_at : Type 1 := List (List Dat) → Int → (γ : Type) → (Int → Int → ByteArray → Option γ) → Option γ
def P_row_at (X : Ty_row_at) (F : Ent3) : Ent3 := fun a s γ K => match a, s with
  | [AVal.dat (Dat.sl v_r), AVal.dat (Dat.int IntKind.i64 v_i)], [] => X v_r v_i γ (fun r0 r1 r2 => K ([(AVal.agg [(Dat.int IntKind.i64 r0, Own.none), (Dat.int IntKind.i64 r1, Own.none), (Dat.str r2, Own.none)], Own.none)], []))
  | a, s => F a s γ K
def T_row_at (x_value_Null : Ty_value_Null) : CallK := (addK noneK 56 (P_value_Null x_value_Null none3))
def L_row_at (x_value_Null : Ty_value_Null) : LoopK := noneL
def Sp.B_row_at (x_value_Null : Ty_value_Null) (v_r : List (List Dat)) (v_i : Int) (γ : Type) (K : Int → Int → ByteArray → Option γ) : Option γ := bif decide (v_i < 0) then x_value_Null γ fun (z4 z5 : Int) (z6 : ByteArray) => K z4 z5 z6 else bif decide (Int.ofNat (List.length v_r) ≤ v_i) then x_value_Null γ fun (z7 z8 : Int) (z9 : ByteArray) => K z7 z8 z9 else elemAt v_r v_i fun (z10 : List Dat) => bif List.length z10 == 3 then cellAt z10 0 fun (z11 : Dat) => Aev.asInt IntKind.i64 z11 fun (z12 : Int) => cellAt z10 1 fun (z13 : Dat) => Aev.asInt IntKind.i64 z13 fun (z14 : Int) => cellAt z10 2 fun (z15 : Dat) => asStr z15 fun (z16 : ByteArray) => K z12 z14 z16 else none
theorem e_row_at (p : Par) (x_value_Null : Ty_value_Null) (v_r : List (List Dat)) (v_i : Int) (γ : Type) (K : List Ent × Sig → Option γ) : evFK (cfg p) (T_row_at x_value_Null) (L_row_at x_value_Null) 44 [AVal.dat (Dat.sl v_r), AVal.dat (Dat.int IntKind.i64 v_i)] [] γ K = Sp.B_row_at x_value_Null v_r v_i γ (fun r0 r1 r2 => K ([(AVal.agg [(Dat.int IntKind.i64 r0, Own.none), (Dat.int IntKind.i64 r1, Own.none), (Dat.str r2, Own.none)], Own.none)], [])) := by kernel_rfl
def Sp.row_at : Ty_row_at := Sp.B_row_at Sp.value_Null
theorem E_row_at (p : Par) {F : Ent3} (hF : EntOk (cfg p) 44 F) : EntOk (cfg p) 44 (P_row_at Sp.row_at F) := by
  intro a s γ K q h
  unfold P_row_at at h
  split at h
  · exact body_ok (tab_call (tab_nil _) (E_value_Null p (ent_none _ _))) rfl ((e_row_at p _ _ _ _ _).trans h)
  · exact hF _ _ _ _ _ h
abbrev Ty_cmp_isNaN_int : Type 1 := Int → (γ : Type) → (Bool → Option γ) → Option γ
def P_cmp_isNaN_int (X : Ty_cmp_isNaN_int) (F : Ent3) : Ent3 := fun a s γ K => match a, s with
  | [AVal.dat (Dat.int IntKind.i64 v_x)], [] => X v_x γ (fun r0 => K ([(AVal.dat (Dat.bool r0), Own.none)], []))
  | a, s => F a s γ K
def T_cmp_isNaN_int  : CallK := noneK
def L_cmp_isNaN_int  : LoopK := noneL
def Sp.B_cmp_isNaN_int  (v_x : Int) (γ : Type) (K : Bool → Option γ) : Option γ := K !decide (v_x = v_x)
theorem e_cmp_isNaN_int (p : Par)  (v_x : Int) (γ : Type) (K : List Ent × Sig → Option γ) : evFK (cfg p) (T_cmp_isNaN_int ) (L_cmp_isNaN_int ) 61 [AVal.dat (Dat.int IntKind.i64 v_x)] [] γ K = Sp.B_cmp_isNaN_int  v_x γ (fun r0 => K ([(AVal.dat (Dat.bool r0), Own.none)], [])) := by kernel_rfl
def Sp.cmp_isNaN_int : Ty_cmp_isNaN_int := Sp.B_cmp_isNaN_int 
theorem E_cmp_isNaN_int (p : Par) {F : Ent3} (hF : EntOk (cfg p) 61 F) : EntOk (cfg p) 61 (P_cmp_isNaN_int Sp.cmp_isNaN_int F) := by
  intro a s γ K q h
  unfold P_cmp_isNaN_int at h
  split at h
  · exact body_ok (tab_nil _) rfl ((e_cmp_isNaN_int p  _ _ _).trans h)
  · exact hF _ _ _ _ _ h
abbrev Ty_cmp_Compare_int : Type 1 := Int → Int → (γ : Type) → (Int → Option γ) → Option γ
def P_cmp_Compare_int (X : Ty_cmp_Compare_int) (F : Ent3) : Ent3 := fun a s γ K => match a, s with
  | [AVal.dat (Dat.int IntKind.i64 v_x), AVal.dat (Dat.int IntKind.i64 v_y)], [] => X v_x v_y γ (fun r0 => K ([(AVal.dat (Dat.int IntKind.i64 r0), Own.none)], []))
  | a, s => F a s γ K
def T_cmp_Compare_int (x_cmp_isNaN_int : Ty_cmp_isNaN_int) : CallK := (addK noneK 61 (P_cmp_isNaN_int x_cmp_isNaN_int none3))
def L_cmp_Compare_int (x_cmp_isNaN_int : Ty_cmp_isNaN_int) : LoopK := noneL
def Sp.B_cmp_Compare_int (x_cmp_isNaN_int : Ty_cmp_isNaN_int) (v_x : Int) (v_y : Int) (γ : Type) (K : Int → Option γ) : Option γ := x_cmp_isNaN_int v_x γ fun (z4 : Bool) => x_cmp_isNaN_int v_y γ fun (z5 : Bool) => bif z4 then bif z5 then K 0 else K (-1) else bif z5 then K 1 else bif decide (v_x < v_y) then K (-1) else bif decide (v_y < v_x) then K 1 else K 0
theorem e_cmp_Compare_int (p : Par) (x_cmp_isNaN_int : Ty_cmp_isNaN_int) (v_x : Int) (v_y : Int) (γ : Type) (K : List Ent × Sig → Option γ) : evFK (cfg p) (T_cmp_Compare_int x_cmp_isNaN_int) (L_cmp_Compare_int x_cmp_isNaN_int) 54 [AVal.dat (Dat.int IntKind.i64 v_x), AVal.dat (Dat.int IntKind.i64 v_y)] [] γ K = Sp.B_cmp_Compare_int x_cmp_isNaN_int v_x v_y γ (fun r0 => K ([(AVal.dat (Dat.int IntKind.i64 r0), Own.none)], [])) := by kernel_rfl
def Sp.cmp_Compare_int : Ty_cmp_Compare_int := Sp.B_cmp_Compare_int Sp.cmp_isNaN_int
theorem E_cmp_Compare_int (p : Par) {F : Ent3} (hF : EntOk (cfg p) 54 F) : EntOk (cfg p) 54 (P_cmp_Compare_int Sp.cmp_Compare_int F) := by
  intro a s γ K q h
  unfold P_cmp_Compare_int at h
  split at h
  · exact body_ok (tab_call (tab_nil _) (E_cmp_isNaN_int p (ent_none _ _))) rfl ((e_cmp_Compare_int p _ _ _ _ _).trans h)
  · exact hF _ _ _ _ _ h
abbrev Ty_cmp_isNaN_string : Type 1 := ByteArray → (γ : Type) → (Bool → Option γ) → Option γ
def P_cmp_isNaN_string (X : Ty_cmp_isNaN_string) (F : Ent3) : Ent3 := fun a s γ K => match a, s with
  | [AVal.dat (Dat.str v_x)], [] => X v_x γ (fun r0 => K ([(AVal.dat (Dat.bool r0), Own.none)], []))
  | a, s => F a s γ K
def T_cmp_isNaN_string  : CallK := noneK
def L_cmp_isNaN_string  : LoopK := noneL
def Sp.B_cmp_isNaN_string  (v_x : ByteArray) (γ : Type) (K : Bool → Option γ) : Option γ := K !decide (v_x = v_x)
theorem e_cmp_isNaN_string (p : Par)  (v_x : ByteArray) (γ : Type) (K : List Ent × Sig → Option γ) : evFK (cfg p) (T_cmp_isNaN_string ) (L_cmp_isNaN_string ) 62 [AVal.dat (Dat.str v_x)] [] γ K = Sp.B_cmp_isNaN_string  v_x γ (fun r0 => K ([(AVal.dat (Dat.bool r0), Own.none)], [])) := by kernel_rfl
def Sp.cmp_isNaN_string : Ty_cmp_isNaN_string := Sp.B_cmp_isNaN_string 
theorem E_cmp_isNaN_string (p : Par) {F : Ent3} (hF : EntOk (cfg p) 62 F) : EntOk (cfg p) 62 (P_cmp_isNaN_string Sp.cmp_isNaN_string F) := by
  intro a s γ K q h
  unfold P_cmp_isNaN_string at h
  split at h
  · exact body_ok (tab_nil _) rfl ((e_cmp_isNaN_string p  _ _ _).trans h)
  · exact hF _ _ _ _ _ h
abbrev Ty_cmp_Compare_string : Type 1 := ByteArray → ByteArray → (γ : Type) → (Int → Option γ) → Option γ
def P_cmp_Compare_string (X : Ty_cmp_Compare_string) (F : Ent3) : Ent3 := fun a s γ K => match a, s with
  | [AVal.dat (Dat.str v_x), AVal.dat (Dat.str v_y)], [] => X v_x v_y γ (fun r0 => K ([(AVal.dat (Dat.int IntKind.i64 r0), Own.none)], []))
  | a, s => F a s γ K
def T_cmp_Compare_string (x_cmp_isNaN_string : Ty_cmp_isNaN_string) : CallK := (addK noneK 62 (P_cmp_isNaN_string x_cmp_isNaN_string none3))
def L_cmp_Compare_string (x_cmp_isNaN_string : Ty_cmp_isNaN_string) : LoopK := noneL
def Sp.B_cmp_Compare_string (x_cmp_isNaN_string : Ty_cmp_isNaN_string) (v_x : ByteArray) (v_y : ByteArray) (γ : Type) (K : Int → Option γ) : Option γ := x_cmp_isNaN_string v_x γ fun (z4 : Bool) => x_cmp_isNaN_string v_y γ fun (z5 : Bool) => bif z4 then bif z5 then K 0 else K (-1) else bif z5 then K 1 else bif Op.bytesLess (ByteArray.data v_x).1 (ByteArray.data v_y).1 then K (-1) else bif !(Op.bytesLess (ByteArray.data v_x).1 (ByteArray.data v_y).1 || decide (v_x = v_y)) then K 1 else K 0
theorem e_cmp_Compare_string (p : Par) (x_cmp_isNaN_string : Ty_cmp_isNaN_string) (v_x : ByteArray) (v_y : ByteArray) (γ : Type) (K : List Ent × Sig → Option γ) : evFK (cfg p) (T_cmp_Compare_string x_cmp_isNaN_string) (L_cmp_Compare_string x_cmp_isNaN_string) 55 [AVal.dat (Dat.str v_x), AVal.dat (Dat.str v_y)] [] γ K = Sp.B_cmp_Compare_string x_cmp_isNaN_string v_x v_y γ (fun r0 => K ([(AVal.dat (Dat.int IntKind.i64 r0), Own.none)], [])) := by kernel_rfl
def Sp.cmp_Compare_string : Ty_cmp_Compare_string := Sp.B_cmp_Compare_string Sp.cmp_isNaN_string
theorem E_cmp_Compare_string (p : Par) {F : Ent3} (hF : EntOk (cfg p) 55 F) : EntOk (cfg p) 55 (P_cmp_Compare_string Sp.cmp_Compare_string F) := by
  intro a s γ K q h
  unfold P_cmp_Compare_string at h
  split at h
  · exact body_ok (tab_call (tab_nil _) (E_cmp_isNaN_string p (ent_none _ _))) rfl ((e_cmp_Compare_string p _ _ _ _ _).trans h)
  · exact hF _ _ _ _ _ h
abbrev Ty_cmp_Or_int_L0 : Type 1 := Int → List (List Dat) → Int → Int → Int → (γ : Type) → (Ex → Int → Int → Option γ) → Option γ
def P_cmp_Or_int_L0 (X : Ty_cmp_Or_int_L0) (F : Loop3) : Loop3 := fun a s γ K => match a, s with
  | [AVal.dat (Dat.int IntKind.i64 v_zero), AVal.dat (Dat.sl v_), AVal.dat (Dat.int IntKind.i64 v__1)], ([AVal.dat (Dat.int IntKind.i64 v__2), AVal.dat (Dat.int IntKind.i64 v__3)], []) => X v_zero v_ v__1 v__2 v__3 γ (fun e x0 x1 => K (e, ([AVal.dat (Dat.int IntKind.i64 x0), AVal.dat (Dat.int IntKind.i64 x1)], [])))
  | a, s => F a s γ K
def T_cmp_Or_int_L0  : CallK := noneK
def L_cmp_Or_int_L0  : LoopK := noneL
def Sp.B_cmp_Or_int_L0 (x_cmp_Or_int_L0 : Ty_cmp_Or_int_L0)  (v_zero : Int) (v_ : List (List Dat)) (v__1 : Int) (v__2 : Int) (v__3 : Int) (γ : Type) (K : Ex → Int → Int → Option γ) : Option γ := bif decide (v__3 < v__1) then elemAt v_ v__3 fun (z7 : List Dat) => bif List.length z7 == 1 then cellAt z7 0 fun (z8 : Dat) => Aev.asInt IntKind.i64 z8 fun (z9 : Int) => bif !decide (z9 = v_zero) then K Ex.ret z9 v__3 else x_cmp_Or_int_L0 v_zero v_ v__1 v__2 (IntKind.wrap IntKind.i64 (v__3 + 1)) γ K else none else K (Ex.exit 0) v__2 v__3
theorem e_cmp_Or_int_L0 (p : Par) (x_cmp_Or_int_L0 : Ty_cmp_Or_int_L0)  (v_zero : Int) (v_ : List (List Dat)) (v__1 : Int) (v__2 : Int) (v__3 : Int) (γ : Type) (K : Ex × Vars → Option γ) : roundK (cfg p) (T_cmp_Or_int_L0 ) (L_cmp_Or_int_L0 ) 45 0 [AVal.dat (Dat.int IntKind.i64 v_zero), AVal.dat (Dat.sl v_), AVal.dat (Dat.int IntKind.i64 v__1)] ([AVal.dat (Dat.int IntKind.i64 v__2), AVal.dat (Dat.int IntKind.i64 v__3)], []) γ (contL (fun v => P_cmp_Or_int_L0 x_cmp_Or_int_L0 noneL3 [AVal.dat (Dat.int IntKind.i64 v_zero), AVal.dat (Dat.sl v_), AVal.dat (Dat.int IntKind.i64 v__1)] v γ K) K) = Sp.B_cmp_Or_int_L0 x_cmp_Or_int_L0  v_zero v_ v__1 v__2 v__3 γ (fun e x0 x1 => K (e, ([AVal.dat (Dat.int IntKind.i64 x0), AVal.dat (Dat.int IntKind.i64 x1)], []))) := by kernel_rfl
def Sp.cmp_Or_int_L0 : Nat → Ty_cmp_Or_int_L0
  | 0 => fun _ _ _ _ _ _ _ => none
  | n + 1 => Sp.B_cmp_Or_int_L0 (Sp.cmp_Or_int_L0 n) 
theorem E0_cmp_Or_int_L0 (p : Par)   : ∀ n, EntOkL (cfg p) 45 0 (P_cmp_Or_int_L0 (Sp.cmp_Or_int_L0  n) noneL3) := entL_rounds (tab_nil _) (by kernel_rfl) (fun c v γ K => by unfold P_cmp_Or_int_L0; split <;> rfl) fun n c v γ K q h => by
  unfold P_cmp_Or_int_L0 at h
  split at h
  · exact (e_cmp_Or_int_L0 p _  _ _ _ _ _ _ _).trans h
  · cases h
theorem E_cmp_Or_int_L0 (p : Par)   (n : Nat) {F : Loop3} (hF : EntOkL (cfg p) 45 0 F) : EntOkL (cfg p) 45 0 (P_cmp_Or_int_L0 (Sp.cmp_Or_int_L0  n) F) := by
  intro c v γ K q h
  unfold P_cmp_Or_int_L0 at h
  split at h
  · exact E0_cmp_Or_int_L0 p   n _ _ _ _ _ h
  · exact hF _ _ _ _ _ h
abbrev Ty_cmp_Or_int : Type 1 := List (List Dat) → (γ : Type) → (Int → Option γ) → Option γ
def P_cmp_Or_int (X : Ty_cmp_Or_int) (F : Ent3) : Ent3 := fun a s γ K => match a, s with
  | [AVal.dat (Dat.sl v_vals)], [] => X v_vals γ (fun r0 => K ([(AVal.dat (Dat.int IntKind.i64 r0), Own.none)], []))
  | a, s => F a s γ K
def T_cmp_Or_int (x_cmp_Or_int_L0 : Ty_cmp_Or_int_L0) : CallK := noneK
def L_cmp_Or_int (x_cmp_Or_int_L0 : Ty_cmp_Or_int_L0) : LoopK := (addL noneL 45 0 (P_cmp_Or_int_L0 x_cmp_Or_int_L0 noneL3))
def Sp.B_cmp_Or_int (x_cmp_Or_int_L0 : Ty_cmp_Or_int_L0) (v_vals : List (List Dat)) (γ : Type) (K : Int → Option γ) : Option γ := x_cmp_Or_int_L0 0 v_vals (Int.ofNat (List.length v_vals)) 0 0 γ fun (z3 : Ex) (z4 z5 : Int) => bif Ex.isExit z3 0 then K 0 else bif Ex.isRet z3 then K z4 else none
theorem e_cmp_Or_int (p : Par) (x_cmp_Or_int_L0 : Ty_cmp_Or_int_L0) (v_vals : List (List Dat)) (γ : Type) (K : List Ent × Sig → Option γ) : evFK (cfg p) (T_cmp_Or_int x_cmp_Or_int_L0) (L_cmp_Or_int x_cmp_Or_int_L0) 45 [AVal.dat (Dat.sl v_vals)] [] γ K = Sp.B_cmp_Or_int x_cmp_Or_int_L0 v_vals γ (fun r0 => K ([(AVal.dat (Dat.int IntKind.i64 r0), Own.none)], [])) := by kernel_rfl
def Sp.cmp_Or_int : Ty_cmp_Or_int := Sp.B_cmp_Or_int (Sp.cmp_Or_int_L0 fuel)
theorem E_cmp_Or_int (p : Par) {F : Ent3} (hF : EntOk (cfg p) 45 F) : EntOk (cfg p) 45 (P_cmp_Or_int Sp.cmp_Or_int F) := by
  intro a s γ K q h
  unfold P_cmp_Or_int at h
  split at h
  · exact body_ok (tab_loop (tab_nil _) (E_cmp_Or_int_L0 p fuel (entL_none _ _ _))) rfl ((e_cmp_Or_int p _ _ _ _).trans h)
  · exact hF _ _ _ _ _ h
abbrev Ty_value_Compare : Type 1 := Int → Int → ByteArray → Int → Int → ByteArray → (γ : Type) → (Int → Option γ) → Option γ
def P_value_Compare (X : Ty_value_Compare) (F : Ent3) : Ent3 := fun a s γ K => match a, s with
  | [AVal.agg [(Dat.int IntKind.i64 v_a0, Own.none), (Dat.int IntKind.i64 v_a1, Own.none), (Dat.str v_a2, Own.none)], AVal.agg [(Dat.int IntKind.i64 v_b0, Own.none), (Dat.int IntKind.i64 v_b1, Own.none), (Dat.str v_b2, Own.none)]], [] => X v_a0 v_a1 v_a2 v_b0 v_b1 v_b2 γ (fun r0 => K ([(AVal.dat (Dat.int IntKind.i64 r0), Own.none)], []))
  | a, s => F a s γ K
def T_value_Compare (x_cmp_Compare_int : Ty_cmp_Compare_int) (x_cmp_Compare_string : Ty_cmp_Compare_string) (x_cmp_Or_int : Ty_cmp_Or_int) : CallK := (addK (addK (addK noneK 54 (P_cmp_Compare_int x_cmp_Compare_int none3)) 55 (P_cmp_Compare_string x_cmp_Compare_string none3)) 45 (P_cmp_Or_int x_cmp_Or_int none3))
def L_value_Compare (x_cmp_Compare_int : Ty_cmp_Compare_int) (x_cmp_Compare_string : Ty_cmp_Compare_string) (x_cmp_Or_int : Ty_cmp_Or_int) : LoopK := noneL
def Sp.B_value_Compare (x_cmp_Compare_int : Ty_cmp_Compare_int) (x_cmp_Compare_string : Ty_cmp_Compare_string) (x_cmp_Or_int : Ty_cmp_Or_int) (v_a0 : Int) (v_a1 : Int) (v_a2 : ByteArray) (v_b0 : Int) (v_b1 : Int) (v_b2 : ByteArray) (γ : Type) (K : Int → Option γ) : Option γ := x_cmp_Compare_int v_a0 v_b0 γ fun (z8 : Int) => x_cmp_Compare_int v_a1 v_b1 γ fun (z9 : Int) => x_cmp_Compare_string v_a2 v_b2 γ fun (z10 : Int) => x_cmp_Or_int [[Dat.int IntKind.i64 z8], [Dat.int IntKind.i64 z9], [Dat.int IntKind.i64 z10]] γ fun (z11 : Int) => K z11
theorem e_value_Compare (p : Par) (x_cmp_Compare_int : Ty_cmp_Compare_int) (x_cmp_Compare_string : Ty_cmp_Compare_string) (x_cmp_Or_int : Ty_cmp_Or_int) (v_a0 : Int) (v_a1 : Int) (v_a2 : ByteArray) (v_b0 : Int) (v_b1 : Int) (v_b2 : ByteArray) (γ : Type) (K : List Ent × Sig → Option γ) : evFK (cfg p) (T_value_Compare x_cmp_Compare_int x_cmp_Compare_string x_cmp_Or_int) (L_value_Compare x_cmp_Compare_int x_cmp_Compare_string x_cmp_Or_int) 42 [AVal.agg [(Dat.int IntKind.i64 v_a0, Own.none), (Dat.int IntKind.i64 v_a1, Own.none), (Dat.str v_a2, Own.none)], AVal.agg [(Dat.int IntKind.i64 v_b0, Own.none), (Dat.int IntKind.i64 v_b1, Own.none), (Dat.str v_b2, Own.none)]] [] γ K = Sp.B_value_Compare x_cmp_Compare_int x_cmp_Compare_string x_cmp_Or_int v_a0 v_a1 v_a2 v_b0 v_b1 v_b2 γ (fun r0 => K ([(AVal.dat (Dat.int IntKind.i64 r0), Own.none)], [])) := by kernel_rfl
def Sp.value_Compare : Ty_value_Compare := Sp.B_value_Compare Sp.cmp_Compare_int Sp.cmp_Compare_string Sp.cmp_Or_int
theorem E_value_Compare (p : Par) {F : Ent3} (hF : EntOk (cfg p) 42 F) : EntOk (cfg p) 42 (P_value_Compare Sp.value_Compare F) := by
  intro a s γ K q h
  unfold P_value_Compare at h
  split at h
  · exact body_ok (tab_call (tab_call (tab_call (tab_nil _) (E_cmp_Compare_int p (ent_none _ _))) (E_cmp_Compare_string p (ent_none _ _))) (E_cmp_Or_int p (ent_none _ _))) rfl ((e_value_Compare p _ _ _ _ _ _ _ _ _ _ _).trans h)
  · exact hF _ _ _ _ _ h
abbrev Ty_row_By_L0 : Type 1 := List (List Dat) → List (List Dat) → List (List Dat) → List (List Dat) → Int → Int → Int → (γ : Type) → (Ex → Int → Int → Option γ) → Option γ
def P_row_By_L0 (X : Ty_row_By_L0) (F : Loop3) : Loop3 := fun a s γ K => match a, s with
  | [AVal.dat (Dat.sl v_a), AVal.dat (Dat.sl v_b), AVal.dat (Dat.sl v_down), AVal.dat (Dat.sl v_), AVal.dat (Dat.int IntKind.i64 v__1)], ([AVal.dat (Dat.int IntKind.i64 v_n), AVal.dat (Dat.int IntKind.i64 v__2)], []) => X v_a v_b v_down v_ v__1 v_n v__2 γ (fun e x0 x1 => K (e, ([AVal.dat (Dat.int IntKind.i64 x0), AVal.dat (Dat.int IntKind.i64 x1)], [])))
  | a, s => F a s γ K
def T_row_By_L0 (x_row_at : Ty_row_at) (x_value_Compare : Ty_value_Compare) (x_cmp_Or_int : Ty_cmp_Or_int) : CallK := (addK (addK (addK noneK 44 (P_row_at x_row_at none3)) 42 (P_value_Compare x_value_Compare none3)) 45 (P_cmp_Or_int x_cmp_Or_int none3))
def L_row_By_L0 (x_row_at : Ty_row_at) (x_value_Compare : Ty_value_Compare) (x_cmp_Or_int : Ty_cmp_Or_int) : LoopK := noneL
def Sp.B_row_By_L0 (x_row_By_L0 : Ty_row_By_L0) (x_row_at : Ty_row_at) (x_value_Compare : Ty_value_Compare) (x_cmp_Or_int : Ty_cmp_Or_int) (v_a : List (List Dat)) (v_b : List (List Dat)) (v_down : List (List Dat)) (v_ : List (List Dat)) (v__1 : Int) (v_n : Int) (v__2 : Int) (γ : Type) (K : Ex → Int → Int → Option γ) : Option γ := bif decide (v__2 < v__1) then elemAt v_ v__2 fun (z9 : List Dat) => bif List.length z9 == 1 then cellAt z9 0 fun (z10 : Dat) => Aev.asInt IntKind.i64 z10 fun (z11 : Int) => x_row_at v_a z11 γ fun (z12 z13 : Int) (z14 : ByteArray) => x_row_at v_b z11 γ fun (z15 z16 : Int) (z17 : ByteArray) => x_value_Compare z12 z13 z14 z15 z16 z17 γ fun (z18 : Int) => bif decide (v__2 < Int.ofNat (List.length v_down)) then elemAt v_down v__2 fun (z19 : List Dat) => bif List.length z19 == 1 then cellAt z19 0 fun (z20 : Dat) => Aev.asBool z20 fun (z21 : Bool) => bif z21 then x_cmp_Or_int [[Dat.int IntKind.i64 v_n], [Dat.int IntKind.i64 (IntKind.wrap IntKind.i64 (0 - z18))]] γ fun (z22 : Int) => x_row_By_L0 v_a v_b v_down v_ v__1 z22 (IntKind.wrap IntKind.i64 (v__2 + 1)) γ K else x_cmp_Or_int [[Dat.int IntKind.i64 v_n], [Dat.int IntKind.i64 z18]] γ fun (z23 : Int) => x_row_By_L0 v_a v_b v_down v_ v__1 z23 (IntKind.wrap IntKind.i64 (v__2 + 1)) γ K else none else x_cmp_Or_int [[Dat.int IntKind.i64 v_n], [Dat.int IntKind.i64 z18]] γ fun (z24 : Int) => x_row_By_L0 v_a v_b v_down v_ v__1 z24 (IntKind.wrap IntKind.i64 (v__2 + 1)) γ K else none else K (Ex.exit 0) v_n v__2
theorem e_row_By_L0 (p : Par) (x_row_By_L0 : Ty_row_By_L0) (x_row_at : Ty_row_at) (x_value_Compare : Ty_value_Compare) (x_cmp_Or_int : Ty_cmp_Or_int) (v_a : List (List Dat)) (v_b : List (List Dat)) (v_down : List (List Dat)) (v_ : List (List Dat)) (v__1 : Int) (v_n : Int) (v__2 : Int) (γ : Type) (K : Ex × Vars → Option γ) : roundK (cfg p) (T_row_By_L0 x_row_at x_value_Compare x_cmp_Or_int) (L_row_By_L0 x_row_at x_value_Compare x_cmp_Or_int) 21 0 [AVal.dat (Dat.sl v_a), AVal.dat (Dat.sl v_b), AVal.dat (Dat.sl v_down), AVal.dat (Dat.sl v_), AVal.dat (Dat.int IntKind.i64 v__1)] ([AVal.dat (Dat.int IntKind.i64 v_n), AVal.dat (Dat.int IntKind.i64 v__2)], []) γ (contL (fun v => P_row_By_L0 x_row_By_L0 noneL3 [AVal.dat (Dat.sl v_a), AVal.dat (Dat.sl v_b), AVal.dat (Dat.sl v_down), AVal.dat (Dat.sl v_), AVal.dat (Dat.int IntKind.i64 v__1)] v γ K) K) = Sp.B_row_By_L0 x_row_By_L0 x_row_at x_value_Compare x_cmp_Or_int v_a v_b v_down v_ v__1 v_n v__2 γ (fun e x0 x1 => K (e, ([AVal.dat (Dat.int IntKind.i64 x0), AVal.dat (Dat.int IntKind.i64 x1)], []))) := by kernel_rfl
def Sp.row_By_L0 : Nat → Ty_row_By_L0
  | 0 => fun _ _ _ _ _ _ _ _ _ => none
  | n + 1 => Sp.B_row_By_L0 (Sp.row_By_L0 n) Sp.row_at Sp.value_Compare Sp.cmp_Or_int
theorem E0_row_By_L0 (p : Par)   : ∀ n, EntOkL (cfg p) 21 0 (P_row_By_L0 (Sp.row_By_L0  n) noneL3) := entL_rounds (tab_call (tab_call (tab_call (tab_nil _) (E_row_at p (ent_none _ _))) (E_value_Compare p (ent_none _ _))) (E_cmp_Or_int p (ent_none _ _))) (by kernel_rfl) (fun c v γ K => by unfold P_row_By_L0; split <;> rfl) fun n c v γ K q h => by
  unfold P_row_By_L0 at h
  split at h
  · exact (e_row_By_L0 p _ _ _ _ _ _ _ _ _ _ _ _ _).trans h
  · cases h
theorem E_row_By_L0 (p : Par)   (n : Nat) {F : Loop3} (hF : EntOkL (cfg p) 21 0 F) : EntOkL (cfg p) 21 0 (P_row_By_L0 (Sp.row_By_L0  n) F) := by
  intro c v γ K q h
  unfold P_row_By_L0 at h
  split at h
  · exact E0_row_By_L0 p   n _ _ _ _ _ h
  · exact hF _ _ _ _ _ h
abbrev Ty_row_By : Type 1 := List (List Dat) → List (List Dat) → List (List Dat) → List (List Dat) → (γ : Type) → (Int → Option γ) → Option γ
def P_row_By (X : Ty_row_By) (F : Ent3) : Ent3 := fun a s γ K => match a, s with
  | [AVal.dat (Dat.sl v_a), AVal.dat (Dat.sl v_b), AVal.dat (Dat.sl v_cols), AVal.dat (Dat.sl v_down)], [] => X v_a v_b v_cols v_down γ (fun r0 => K ([(AVal.dat (Dat.int IntKind.i64 r0), Own.none)], []))
  | a, s => F a s γ K
def T_row_By (x_row_By_L0 : Ty_row_By_L0) : CallK := noneK
def L_row_By (x_row_By_L0 : Ty_row_By_L0) : LoopK := (addL noneL 21 0 (P_row_By_L0 x_row_By_L0 noneL3))
def Sp.B_row_By (x_row_By_L0 : Ty_row_By_L0) (v_a : List (List Dat)) (v_b : List (List Dat)) (v_cols : List (List Dat)) (v_down : List (List Dat)) (γ : Type) (K : Int → Option γ) : Option γ := x_row_By_L0 v_a v_b v_down v_cols (Int.ofNat (List.length v_cols)) 0 0 γ fun (z6 : Ex) (z7 z8 : Int) => bif Ex.isExit z6 0 then K z7 else bif Ex.isRet z6 then none else none
theorem e_row_By (p : Par) (x_row_By_L0 : Ty_row_By_L0) (v_a : List (List Dat)) (v_b : List (List Dat)) (v_cols : List (List Dat)) (v_down : List (List Dat)) (γ : Type) (K : List Ent × Sig → Option γ) : evFK (cfg p) (T_row_By x_row_By_L0) (L_row_By x_row_By_L0) 21 [AVal.dat (Dat.sl v_a), AVal.dat (Dat.sl v_b), AVal.dat (Dat.sl v_cols), AVal.dat (Dat.sl v_down)] [] γ K = Sp.B_row_By x_row_By_L0 v_a v_b v_cols v_down γ (fun r0 => K ([(AVal.dat (Dat.int IntKind.i64 r0), Own.none)], [])) := by kernel_rfl
def Sp.row_By : Ty_row_By := Sp.B_row_By (Sp.row_By_L0 fuel)
theorem E_row_By (p : Par) {F : Ent3} (hF : EntOk (cfg p) 21 F) : EntOk (cfg p) 21 (P_row_By Sp.row_By F) := by
  intro a s γ K q h
  unfold P_row_By at h
  split at h
  · exact body_ok (tab_loop (tab_nil _) (E_row_By_L0 p fuel (entL_none _ _ _))) rfl ((e_row_By p _ _ _ _ _ _ _).trans h)
  · exact hF _ _ _ _ _ h
abbrev Ty_law02_lives : Type 1 := (γ : Type) → (Bool → Option γ) → Option γ
def P_law02_lives (X : Ty_law02_lives) (F : Ent3) : Ent3 := fun a s γ K => match a, s with
  | [], [] => X  γ (fun r0 => K ([(AVal.dat (Dat.bool r0), Own.none)], []))
  | a, s => F a s γ K
def T_law02_lives (x_ref01_Int : Ty_ref01_Int) (x_row_Put : Ty_row_Put) (x_row_Get : Ty_row_Get) (x_row_Pick : Ty_row_Pick) (x_row_Join : Ty_row_Join) (x_row_Nulls : Ty_row_Nulls) (x_row_Sort : Ty_row_Sort) (x_row_Same : Ty_row_Same) (x_row_Size : Ty_row_Size) (x_row_By : Ty_row_By) (x_row_Check : Ty_row_Check) : CallK := (addK (addK (addK (addK (addK (addK (addK (addK (addK (addK (addK noneK 30 (P_ref01_Int x_ref01_Int none3)) 10 (P_row_Put x_row_Put none3)) 14 (P_row_Get x_row_Get none3)) 23 (P_row_Pick x_row_Pick none3)) 24 (P_row_Join x_row_Join none3)) 25 (P_row_Nulls x_row_Nulls none3)) 27 (P_row_Sort x_row_Sort none3)) 16 (P_row_Same x_row_Same none3)) 13 (P_row_Size x_row_Size none3)) 21 (P_row_By x_row_By none3)) 12 (P_row_Check x_row_Check none3))
def L_law02_lives (x_ref01_Int : Ty_ref01_Int) (x_row_Put : Ty_row_Put) (x_row_Get : Ty_row_Get) (x_row_Pick : Ty_row_Pick) (x_row_Join : Ty_row_Join) (x_row_Nulls : Ty_row_Nulls) (x_row_Sort : Ty_row_Sort) (x_row_Same : Ty_row_Same) (x_row_Size : Ty_row_Size) (x_row_By : Ty_row_By) (x_row_Check : Ty_row_Check) : LoopK := noneL
def Sp.B_law02_lives (x_ref01_Int : Ty_ref01_Int) (x_row_Put : Ty_row_Put) (x_row_Get : Ty_row_Get) (x_row_Pick : Ty_row_Pick) (x_row_Join : Ty_row_Join) (x_row_Nulls : Ty_row_Nulls) (x_row_Sort : Ty_row_Sort) (x_row_Same : Ty_row_Same) (x_row_Size : Ty_row_Size) (x_row_By : Ty_row_By) (x_row_Check : Ty_row_Check)  (γ : Type) (K : Bool → Option γ) : Option γ := x_ref01_Int 5 γ fun (z2 z3 : Int) (z4 : ByteArray) =>
    x_row_Put [[Dat.int IntKind.i64 z2, Dat.int IntKind.i64 z3, Dat.str z4], [Dat.int IntKind.i64 0, Dat.int IntKind.i64 0, Dat.str (bs [])]] γ fun (z5 : List (List Dat)) (z6 : Int) =>
      bif sized z5 1 && true && true && decide ((List.length z5 + 1) * 2 ≤ 70368744177664) && true then
        x_row_Get (z5 ++ [[Dat.int IntKind.u8 9]]) γ fun (z7 : List (List Dat)) (z8 z9 : Int) =>
          x_row_Get [] γ fun (z10 : List (List Dat)) (z11 z12 : Int) =>
            x_row_Pick [[Dat.int IntKind.i64 z2, Dat.int IntKind.i64 z3, Dat.str z4], [Dat.int IntKind.i64 0, Dat.int IntKind.i64 0, Dat.str (bs [])]] [[Dat.int IntKind.i64 1], [Dat.int IntKind.i64 0]] γ fun (z13 : List (List Dat)) (z14 : Int) =>
              x_row_Pick [[Dat.int IntKind.i64 z2, Dat.int IntKind.i64 z3, Dat.str z4], [Dat.int IntKind.i64 0, Dat.int IntKind.i64 0, Dat.str (bs [])]] [[Dat.int IntKind.i64 2]] γ fun (z15 : List (List Dat)) (z16 : Int) =>
                x_row_Join [[Dat.int IntKind.i64 z2, Dat.int IntKind.i64 z3, Dat.str z4], [Dat.int IntKind.i64 0, Dat.int IntKind.i64 0, Dat.str (bs [])]] [[Dat.int IntKind.i64 z2, Dat.int IntKind.i64 z3, Dat.str z4], [Dat.int IntKind.i64 0, Dat.int IntKind.i64 0, Dat.str (bs [])]] γ fun (z17 : List (List Dat)) (z18 : Int) =>
                  x_row_Nulls 2 γ fun (z19 : List (List Dat)) (z20 : Int) =>
                    x_ref01_Int 4 γ fun (z21 z22 : Int) (z23 : ByteArray) =>
                      x_row_Sort [[Dat.sl [[Dat.int IntKind.i64 z2, Dat.int IntKind.i64 z3, Dat.str z4], [Dat.int IntKind.i64 0, Dat.int IntKind.i64 0, Dat.str (bs [])]]], [Dat.sl [[Dat.int IntKind.i64 z21, Dat.int IntKind.i64 z22, Dat.str z23]]]] γ fun (z24 : List (List Dat)) =>
                        bif decide (z6 = 0) then
                          match esBytes z5 with
                          | some z26 => bif decide (ByteArray.mk (Array.mk z26) = bs [2, 2, 32, 0, 0, 0, 0, 0, 5, 0]) then bif decide (z9 = 0) then bif decide (z8 = 10) then x_row_Same z7 [[Dat.int IntKind.i64 z2, Dat.int IntKind.i64 z3, Dat.str z4], [Dat.int IntKind.i64 0, Dat.int IntKind.i64 0, Dat.str (bs [])]] γ fun (z27 : Bool) => bif z27 then bif decide (z12 = 20) then bif decide (z14 = 0) then bif decide (Int.ofNat (List.length z13) = 2) then elemAt z13 1 fun (z28 : List Dat) => bif List.length z28 == 3 then cellAt (List.drop 1 z28) 0 fun (z29 : Dat) => Aev.asInt IntKind.i64 z29 fun (z30 : Int) => bif decide (z30 = 5) then bif decide (z16 = 1) then bif decide (z18 = 0) then bif decide (Int.ofNat (List.length z17) = 4) then bif decide (z20 = 0) then bif decide (Int.ofNat (List.length z19) = 2) then bif decide (Int.ofNat (List.length z24) = 2) then elemAt z24 0 fun (z31 : List Dat) => bif List.length z31 == 1 then cellAt z31 0 fun (z32 : Dat) => asSl z32 fun (z33 : List (List Dat)) => elemAt z33 0 fun (z34 : List Dat) => bif List.length z34 == 3 then cellAt (List.drop 1 z34) 0 fun (z35 : Dat) => Aev.asInt IntKind.i64 z35 fun (z36 : Int) => bif decide (z36 = 4) then x_row_Size [[Dat.int IntKind.i64 z2, Dat.int IntKind.i64 z3, Dat.str z4], [Dat.int IntKind.i64 0, Dat.int IntKind.i64 0, Dat.str (bs [])]] γ fun (z37 : Int) => bif decide (z37 = 10) then elemAt z24 0 fun (z38 : List Dat) => bif List.length z38 == 1 then cellAt z38 0 fun (z39 : Dat) => asSl z39 fun (z40 : List (List Dat)) => x_row_By [[Dat.int IntKind.i64 z2, Dat.int IntKind.i64 z3, Dat.str z4], [Dat.int IntKind.i64 0, Dat.int IntKind.i64 0, Dat.str (bs [])]] z40 [[Dat.int IntKind.i64 0]] [[Dat.bool true]] γ fun (z41 : Int) => bif decide (z41 = -1) then x_row_Check [[Dat.int IntKind.i64 0, Dat.int IntKind.i64 0, Dat.str (bs [])], [Dat.int IntKind.i64 0, Dat.int IntKind.i64 0, Dat.str (bs [])], [Dat.int IntKind.i64 0, Dat.int IntKind.i64 0, Dat.str (bs [])], [Dat.int IntKind.i64 0, Dat.int IntKind.i64 0, Dat.str (bs [])], [Dat.int IntKind.i64 0, Dat.int IntKind.i64 0, Dat.str (bs [])], [Dat.int IntKind.i64 0, Dat.int IntKind.i64 0, Dat.str (bs [])], [Dat.int IntKind.i64 0, Dat.int IntKind.i64 0, Dat.str (bs [])], [Dat.int IntKind.i64 0, Dat.int IntKind.i64 0, Dat.str (bs [])], [Dat.int IntKind.i64 0, Dat.int IntKind.i64 0, Dat.str (bs [])], [Dat.int IntKind.i64 0, Dat.int IntKind.i64 0, Dat.str (bs [])], [Dat.int IntKind.i64 0, Dat.int IntKind.i64 0, Dat.str (bs [])], [Dat.int IntKind.i64 0, Dat.int IntKind.i64 0, Dat.str (bs [])], [Dat.int IntKind.i64 0, Dat.int IntKind.i64 0, Dat.str (bs [])], [Dat.int IntKind.i64 0, Dat.int IntKind.i64 0, Dat.str (bs [])], [Dat.int IntKind.i64 0, Dat.int IntKind.i64 0, Dat.str (bs [])], [Dat.int IntKind.i64 0, Dat.int IntKind.i64 0, Dat.str (bs [])], [Dat.int IntKind.i64 0, Dat.int IntKind.i64 0, Dat.str (bs [])], [Dat.int IntKind.i64 0, Dat.int IntKind.i64 0, Dat.str (bs [])], [Dat.int IntKind.i64 0, Dat.int IntKind.i64 0, Dat.str (bs [])], [Dat.int IntKind.i64 0, Dat.int IntKind.i64 0, Dat.str (bs [])], [Dat.int IntKind.i64 0, Dat.int IntKind.i64 0, Dat.str (bs [])], [Dat.int IntKind.i64 0, Dat.int IntKind.i64 0, Dat.str (bs [])], [Dat.int IntKind.i64 0, Dat.int IntKind.i64 0, Dat.str (bs [])], [Dat.int IntKind.i64 0, Dat.int IntKind.i64 0, Dat.str (bs [])], [Dat.int IntKind.i64 0, Dat.int IntKind.i64 0, Dat.str (bs [])], [Dat.int IntKind.i64 0, Dat.int IntKind.i64 0, Dat.str (bs [])], [Dat.int IntKind.i64 0, Dat.int IntKind.i64 0, Dat.str (bs [])], [Dat.int IntKind.i64 0, Dat.int IntKind.i64 0, Dat.str (bs [])], [Dat.int IntKind.i64 0, Dat.int IntKind.i64 0, Dat.str (bs [])], [Dat.int IntKind.i64 0, Dat.int IntKind.i64 0, Dat.str (bs [])], [Dat.int IntKind.i64 0, Dat.int IntKind.i64 0, Dat.str (bs [])], [Dat.int IntKind.i64 0, Dat.int IntKind.i64 0, Dat.str (bs [])], [Dat.int IntKind.i64 0, Dat.int IntKind.i64 0, Dat.str (bs [])]] γ fun (z42 : Int) => K (decide (z42 = 20)) else K false else none else K false else K false else none else none else K false else K false else K false else K false else K false else K false else K false else none else K false else K false else K false else K false else K false else K false else K false
                          | none => none
                        else K false
      else none
theorem e_law02_lives (p : Par) (x_ref01_Int : Ty_ref01_Int) (x_row_Put : Ty_row_Put) (x_row_Get : Ty_row_Get) (x_row_Pick : Ty_row_Pick) (x_row_Join : Ty_row_Join) (x_row_Nulls : Ty_row_Nulls) (x_row_Sort : Ty_row_Sort) (x_row_Same : Ty_row_Same) (x_row_Size : Ty_row_Size) (x_row_By : Ty_row_By) (x_row_Check : Ty_row_Check)  (γ : Type) (K : List Ent × Sig → Option γ) : evFK (cfg p) (T_law02_lives x_ref01_Int x_row_Put x_row_Get x_row_Pick x_row_Join x_row_Nulls x_row_Sort x_row_Same x_row_Size x_row_By x_row_Check) (L_law02_lives x_ref01_Int x_row_Put x_row_Get x_row_Pick x_row_Join x_row_Nulls x_row_Sort x_row_Same x_row_Size x_row_By x_row_Check) 9 [] [] γ K = Sp.B_law02_lives x_ref01_Int x_row_Put x_row_Get x_row_Pick x_row_Join x_row_Nulls x_row_Sort x_row_Same x_row_Size x_row_By x_row_Check  γ (fun r0 => K ([(AVal.dat (Dat.bool r0), Own.none)], [])) := by kernel_rfl
def Sp.law02_lives : Ty_law02_lives := Sp.B_law02_lives Sp.ref01_Int Sp.row_Put Sp.row_Get Sp.row_Pick Sp.row_Join Sp.row_Nulls Sp.row_Sort Sp.row_Same Sp.row_Size Sp.row_By Sp.row_Check
theorem E_law02_lives (p : Par) {F : Ent3} (hF : EntOk (cfg p) 9 F) : EntOk (cfg p) 9 (P_law02_lives Sp.law02_lives F) := by
  intro a s γ K q h
  unfold P_law02_lives at h
  split at h
  · exact body_ok (tab_call (tab_call (tab_call (tab_call (tab_call (tab_call (tab_call (tab_call (tab_call (tab_call (tab_call (tab_nil _) (E_ref01_Int p (ent_none _ _))) (E_row_Put p (ent_none _ _))) (E_row_Get p (ent_none _ _))) (E_row_Pick p (ent_none _ _))) (E_row_Join p (ent_none _ _))) (E_row_Nulls p (ent_none _ _))) (E_row_Sort p (ent_none _ _))) (E_row_Same p (ent_none _ _))) (E_row_Size p (ent_none _ _))) (E_row_By p (ent_none _ _))) (E_row_Check p (ent_none _ _))) rfl ((e_law02_lives p _ _ _ _ _ _ _ _ _ _ _ _ _ ).trans h)
  · exact hF _ _ _ _ _ h
abbrev Ty_ref01_Check : Type 1 := Int → Int → ByteArray → (γ : Type) → (Bool → Option γ) → Option γ
def P_ref01_Check (X : Ty_ref01_Check) (F : Ent3) : Ent3 := fun a s γ K => match a, s with
  | [AVal.agg [(Dat.int IntKind.i64 v_v0, Own.none), (Dat.int IntKind.i64 v_v1, Own.none), (Dat.str v_v2, Own.none)]], [] => X v_v0 v_v1 v_v2 γ (fun r0 => K ([(AVal.dat (Dat.bool r0), Own.none)], []))
  | a, s => F a s γ K
def T_ref01_Check  : CallK := noneK
def L_ref01_Check  : LoopK := noneL
def Sp.B_ref01_Check  (v_v0 : Int) (v_v1 : Int) (v_v2 : ByteArray) (γ : Type) (K : Bool → Option γ) : Option γ := bif decide (v_v0 = 0) then bif decide (v_v1 = 0) then K (decide (v_v2 = bs [])) else K false else bif decide (v_v0 = 1) then bif decide (v_v1 = 0) then K (decide (v_v2 = bs [])) else bif decide (v_v1 = 1) then K (decide (v_v2 = bs [])) else K false else bif decide (v_v0 = 2) then bif decide (-9007199254740991 ≤ v_v1) then bif decide (v_v1 ≤ 9007199254740991) then K (decide (v_v2 = bs [])) else K false else K false else bif decide (v_v0 = 3) then bif decide (v_v1 = 0) then K (decide (Int.ofNat (ByteArray.size v_v2) ≤ 64)) else K false else K false
theorem e_ref01_Check (p : Par)  (v_v0 : Int) (v_v1 : Int) (v_v2 : ByteArray) (γ : Type) (K : List Ent × Sig → Option γ) : evFK (cfg p) (T_ref01_Check ) (L_ref01_Check ) 32 [AVal.agg [(Dat.int IntKind.i64 v_v0, Own.none), (Dat.int IntKind.i64 v_v1, Own.none), (Dat.str v_v2, Own.none)]] [] γ K = Sp.B_ref01_Check  v_v0 v_v1 v_v2 γ (fun r0 => K ([(AVal.dat (Dat.bool r0), Own.none)], [])) := by kernel_rfl
def Sp.ref01_Check : Ty_ref01_Check := Sp.B_ref01_Check 
theorem E_ref01_Check (p : Par) {F : Ent3} (hF : EntOk (cfg p) 32 F) : EntOk (cfg p) 32 (P_ref01_Check Sp.ref01_Check F) := by
  intro a s γ K q h
  unfold P_ref01_Check at h
  split at h
  · exact body_ok (tab_nil _) rfl ((e_ref01_Check p  _ _ _ _ _).trans h)
  · exact hF _ _ _ _ _ h
abbrev Ty_ref02_Check_L0 : Type 1 := List (List Dat) → Bool → Int → (γ : Type) → (Ex → Bool → Int → Option γ) → Option γ
def P_ref02_Check_L0 (X : Ty_ref02_Check_L0) (F : Loop3) : Loop3 := fun a s γ K => match a, s with
  | [AVal.dat (Dat.sl v_r)], ([AVal.dat (Dat.bool v_), AVal.dat (Dat.int IntKind.i64 v_i)], []) => X v_r v_ v_i γ (fun e x0 x1 => K (e, ([AVal.dat (Dat.bool x0), AVal.dat (Dat.int IntKind.i64 x1)], [])))
  | a, s => F a s γ K
def T_ref02_Check_L0 (x_ref01_Check : Ty_ref01_Check) : CallK := (addK noneK 32 (P_ref01_Check x_ref01_Check none3))
def L_ref02_Check_L0 (x_ref01_Check : Ty_ref01_Check) : LoopK := noneL
def Sp.B_ref02_Check_L0 (x_ref02_Check_L0 : Ty_ref02_Check_L0) (x_ref01_Check : Ty_ref01_Check) (v_r : List (List Dat)) (v_ : Bool) (v_i : Int) (γ : Type) (K : Ex → Bool → Int → Option γ) : Option γ := bif decide (v_i < Int.ofNat (List.length v_r)) then elemAt v_r v_i fun (z5 : List Dat) => bif List.length z5 == 3 then cellAt z5 0 fun (z6 : Dat) => Aev.asInt IntKind.i64 z6 fun (z7 : Int) => cellAt z5 1 fun (z8 : Dat) => Aev.asInt IntKind.i64 z8 fun (z9 : Int) => cellAt z5 2 fun (z10 : Dat) => asStr z10 fun (z11 : ByteArray) => x_ref01_Check z7 z9 z11 γ fun (z12 : Bool) => bif !z12 then K Ex.ret false v_i else x_ref02_Check_L0 v_r v_ (IntKind.wrap IntKind.i64 (v_i + 1)) γ K else none else K (Ex.exit 0) v_ v_i
theorem e_ref02_Check_L0 (p : Par) (x_ref02_Check_L0 : Ty_ref02_Check_L0) (x_ref01_Check : Ty_ref01_Check) (v_r : List (List Dat)) (v_ : Bool) (v_i : Int) (γ : Type) (K : Ex × Vars → Option γ) : roundK (cfg p) (T_ref02_Check_L0 x_ref01_Check) (L_ref02_Check_L0 x_ref01_Check) 11 0 [AVal.dat (Dat.sl v_r)] ([AVal.dat (Dat.bool v_), AVal.dat (Dat.int IntKind.i64 v_i)], []) γ (contL (fun v => P_ref02_Check_L0 x_ref02_Check_L0 noneL3 [AVal.dat (Dat.sl v_r)] v γ K) K) = Sp.B_ref02_Check_L0 x_ref02_Check_L0 x_ref01_Check v_r v_ v_i γ (fun e x0 x1 => K (e, ([AVal.dat (Dat.bool x0), AVal.dat (Dat.int IntKind.i64 x1)], []))) := by kernel_rfl
def Sp.ref02_Check_L0 : Nat → Ty_ref02_Check_L0
  | 0 => fun _ _ _ _ _ => none
  | n + 1 => Sp.B_ref02_Check_L0 (Sp.ref02_Check_L0 n) Sp.ref01_Check
theorem E0_ref02_Check_L0 (p : Par)   : ∀ n, EntOkL (cfg p) 11 0 (P_ref02_Check_L0 (Sp.ref02_Check_L0  n) noneL3) := entL_rounds (tab_call (tab_nil _) (E_ref01_Check p (ent_none _ _))) (by kernel_rfl) (fun c v γ K => by unfold P_ref02_Check_L0; split <;> rfl) fun n c v γ K q h => by
  unfold P_ref02_Check_L0 at h
  split at h
  · exact (e_ref02_Check_L0 p _ _ _ _ _ _ _).trans h
  · cases h
theorem E_ref02_Check_L0 (p : Par)   (n : Nat) {F : Loop3} (hF : EntOkL (cfg p) 11 0 F) : EntOkL (cfg p) 11 0 (P_ref02_Check_L0 (Sp.ref02_Check_L0  n) F) := by
  intro c v γ K q h
  unfold P_ref02_Check_L0 at h
  split at h
  · exact E0_ref02_Check_L0 p   n _ _ _ _ _ h
  · exact hF _ _ _ _ _ h
abbrev Ty_ref02_Check : Type 1 := List (List Dat) → (γ : Type) → (Bool → Option γ) → Option γ
def P_ref02_Check (X : Ty_ref02_Check) (F : Ent3) : Ent3 := fun a s γ K => match a, s with
  | [AVal.dat (Dat.sl v_r)], [] => X v_r γ (fun r0 => K ([(AVal.dat (Dat.bool r0), Own.none)], []))
  | a, s => F a s γ K
def T_ref02_Check (x_ref02_Check_L0 : Ty_ref02_Check_L0) : CallK := noneK
def L_ref02_Check (x_ref02_Check_L0 : Ty_ref02_Check_L0) : LoopK := (addL noneL 11 0 (P_ref02_Check_L0 x_ref02_Check_L0 noneL3))
def Sp.B_ref02_Check (x_ref02_Check_L0 : Ty_ref02_Check_L0) (v_r : List (List Dat)) (γ : Type) (K : Bool → Option γ) : Option γ := x_ref02_Check_L0 v_r false 0 γ fun (z3 : Ex) (z4 : Bool) (z5 : Int) => bif Ex.isExit z3 0 then K (decide (Int.ofNat (List.length v_r) ≤ 32)) else bif Ex.isRet z3 then K z4 else none
theorem e_ref02_Check (p : Par) (x_ref02_Check_L0 : Ty_ref02_Check_L0) (v_r : List (List Dat)) (γ : Type) (K : List Ent × Sig → Option γ) : evFK (cfg p) (T_ref02_Check x_ref02_Check_L0) (L_ref02_Check x_ref02_Check_L0) 11 [AVal.dat (Dat.sl v_r)] [] γ K = Sp.B_ref02_Check x_ref02_Check_L0 v_r γ (fun r0 => K ([(AVal.dat (Dat.bool r0), Own.none)], [])) := by kernel_rfl
def Sp.ref02_Check : Ty_ref02_Check := Sp.B_ref02_Check (Sp.ref02_Check_L0 fuel)
theorem E_ref02_Check (p : Par) {F : Ent3} (hF : EntOk (cfg p) 11 F) : EntOk (cfg p) 11 (P_ref02_Check Sp.ref02_Check F) := by
  intro a s γ K q h
  unfold P_ref02_Check at h
  split at h
  · exact body_ok (tab_loop (tab_nil _) (E_ref02_Check_L0 p fuel (entL_none _ _ _))) rfl ((e_ref02_Check p _ _ _ _).trans h)
  · exact hF _ _ _ _ _ h
abbrev Ty_ref02_Put_L3 : Type 1 := List (List Dat) → Int → Int → List (List Dat) → Int → (γ : Type) → (Ex → List (List Dat) → Int → Option γ) → Option γ
def P_ref02_Put_L3 (X : Ty_ref02_Put_L3) (F : Loop3) : Loop3 := fun a s γ K => match a, s with
  | [AVal.dat (Dat.sl v_r), AVal.dat (Dat.int IntKind.i64 v_i), AVal.dat (Dat.int IntKind.i64 v_n)], ([AVal.dat (Dat.sl v_out), AVal.dat (Dat.int IntKind.i64 v_k)], []) => X v_r v_i v_n v_out v_k γ (fun e x0 x1 => K (e, ([AVal.dat (Dat.sl x0), AVal.dat (Dat.int IntKind.i64 x1)], [])))
  | a, s => F a s γ K
def T_ref02_Put_L3  : CallK := noneK
def L_ref02_Put_L3  : LoopK := noneL
def Sp.B_ref02_Put_L3 (x_ref02_Put_L3 : Ty_ref02_Put_L3)  (v_r : List (List Dat)) (v_i : Int) (v_n : Int) (v_out : List (List Dat)) (v_k : Int) (γ : Type) (K : Ex → List (List Dat) → Int → Option γ) : Option γ := bif sized v_out 1 then bif decide (0 ≤ v_k) then bif decide (0 ≤ IntKind.wrap IntKind.i64 (8 * v_k)) then bif sized v_out 1 && true && true && decide ((List.length v_out + 1) * 2 ≤ 70368744177664) && true then x_ref02_Put_L3 v_r v_i v_n (v_out ++ [[Dat.int IntKind.u8 (IntKind.wrap IntKind.u8 (Int.fdiv v_n (2 ^ min (Int.toNat (IntKind.wrap IntKind.i64 (8 * v_k))) 64)))]]) (IntKind.wrap IntKind.i64 (v_k - 1)) γ K else none else none else K (Ex.exit 3) v_out v_k else none
theorem e_ref02_Put_L3 (p : Par) (x_ref02_Put_L3 : Ty_ref02_Put_L3)  (v_r : List (List Dat)) (v_i : Int) (v_n : Int) (v_out : List (List Dat)) (v_k : Int) (γ : Type) (K : Ex × Vars → Option γ) : roundK (cfg p) (T_ref02_Put_L3 ) (L_ref02_Put_L3 ) 15 3 [AVal.dat (Dat.sl v_r), AVal.dat (Dat.int IntKind.i64 v_i), AVal.dat (Dat.int IntKind.i64 v_n)] ([AVal.dat (Dat.sl v_out), AVal.dat (Dat.int IntKind.i64 v_k)], []) γ (contL (fun v => P_ref02_Put_L3 x_ref02_Put_L3 noneL3 [AVal.dat (Dat.sl v_r), AVal.dat (Dat.int IntKind.i64 v_i), AVal.dat (Dat.int IntKind.i64 v_n)] v γ K) K) = Sp.B_ref02_Put_L3 x_ref02_Put_L3  v_r v_i v_n v_out v_k γ (fun e x0 x1 => K (e, ([AVal.dat (Dat.sl x0), AVal.dat (Dat.int IntKind.i64 x1)], []))) := by kernel_rfl
def Sp.ref02_Put_L3 : Nat → Ty_ref02_Put_L3
  | 0 => fun _ _ _ _ _ _ _ => none
  | n + 1 => Sp.B_ref02_Put_L3 (Sp.ref02_Put_L3 n) 
theorem E0_ref02_Put_L3 (p : Par)   : ∀ n, EntOkL (cfg p) 15 3 (P_ref02_Put_L3 (Sp.ref02_Put_L3  n) noneL3) := entL_rounds (tab_nil _) (by kernel_rfl) (fun c v γ K => by unfold P_ref02_Put_L3; split <;> rfl) fun n c v γ K q h => by
  unfold P_ref02_Put_L3 at h
  split at h
  · exact (e_ref02_Put_L3 p _  _ _ _ _ _ _ _).trans h
  · cases h
theorem E_ref02_Put_L3 (p : Par)   (n : Nat) {F : Loop3} (hF : EntOkL (cfg p) 15 3 F) : EntOkL (cfg p) 15 3 (P_ref02_Put_L3 (Sp.ref02_Put_L3  n) F) := by
  intro c v γ K q h
  unfold P_ref02_Put_L3 at h
  split at h
  · exact E0_ref02_Put_L3 p   n _ _ _ _ _ h
  · exact hF _ _ _ _ _ h
abbrev Ty_ref02_Put_L0 : Type 1 := List (List Dat) → List (List Dat) → Int → (γ : Type) → (Ex → List (List Dat) → Int → Option γ) → Option γ
def P_ref02_Put_L0 (X : Ty_ref02_Put_L0) (F : Loop3) : Loop3 := fun a s γ K => match a, s with
  | [AVal.dat (Dat.sl v_r)], ([AVal.dat (Dat.sl v_out), AVal.dat (Dat.int IntKind.i64 v_i)], []) => X v_r v_out v_i γ (fun e x0 x1 => K (e, ([AVal.dat (Dat.sl x0), AVal.dat (Dat.int IntKind.i64 x1)], [])))
  | a, s => F a s γ K
def T_ref02_Put_L0 (x_ref02_Put_L3 : Ty_ref02_Put_L3) : CallK := noneK
def L_ref02_Put_L0 (x_ref02_Put_L3 : Ty_ref02_Put_L3) : LoopK := (addL noneL 15 3 (P_ref02_Put_L3 x_ref02_Put_L3 noneL3))
def Sp.B_ref02_Put_L0 (x_ref02_Put_L0 : Ty_ref02_Put_L0) (x_ref02_Put_L3 : Ty_ref02_Put_L3) (v_r : List (List Dat)) (v_out : List (List Dat)) (v_i : Int) (γ : Type) (K : Ex → List (List Dat) → Int → Option γ) : Option γ := bif sized v_out 1 then bif decide (v_i < Int.ofNat (List.length v_r)) then elemAt v_r v_i fun (z5 : List Dat) => bif List.length z5 == 3 then cellAt z5 0 fun (z6 : Dat) => Aev.asInt IntKind.i64 z6 fun (z7 : Int) => cellAt z5 1 fun (z8 : Dat) => Aev.asInt IntKind.i64 z8 fun (z9 : Int) => cellAt z5 2 fun (z10 : Dat) => asStr z10 fun (z11 : ByteArray) => bif sized v_out 1 && true && true && decide ((List.length v_out + 1) * 2 ≤ 70368744177664) && true then bif decide (z7 = 1) then bif sized (v_out ++ [[Dat.int IntKind.u8 (IntKind.wrap IntKind.u8 z7)]]) 1 && true && true && decide ((List.length (v_out ++ [[Dat.int IntKind.u8 (IntKind.wrap IntKind.u8 z7)]]) + 1) * 2 ≤ 70368744177664) && true then x_ref02_Put_L0 v_r (v_out ++ [[Dat.int IntKind.u8 (IntKind.wrap IntKind.u8 z7)]] ++ [[Dat.int IntKind.u8 (IntKind.wrap IntKind.u8 z9)]]) (IntKind.wrap IntKind.i64 (v_i + 1)) γ K else none else bif decide (z7 = 2) then x_ref02_Put_L3 v_r v_i (IntKind.wrap IntKind.i64 (z9 + 9007199254740992)) (v_out ++ [[Dat.int IntKind.u8 (IntKind.wrap IntKind.u8 z7)]]) 6 γ fun (z12 : Ex) (z13 : List (List Dat)) (z14 : Int) => bif sized z13 1 then bif Ex.isExit z12 3 then x_ref02_Put_L0 v_r z13 (IntKind.wrap IntKind.i64 (v_i + 1)) γ K else bif Ex.isRet z12 then K Ex.ret z13 v_i else none else none else bif decide (z7 = 3) then bif sized (v_out ++ [[Dat.int IntKind.u8 (IntKind.wrap IntKind.u8 z7)]]) 1 && true && true && decide ((List.length (v_out ++ [[Dat.int IntKind.u8 (IntKind.wrap IntKind.u8 z7)]]) + 1) * 2 ≤ 70368744177664) && true then bif sized (v_out ++ [[Dat.int IntKind.u8 (IntKind.wrap IntKind.u8 z7)]] ++ [[Dat.int IntKind.u8 (IntKind.wrap IntKind.u8 (Int.ofNat (ByteArray.size z11)))]]) 1 && sized (bytesEs z11) 1 && true && decide ((List.length (v_out ++ [[Dat.int IntKind.u8 (IntKind.wrap IntKind.u8 z7)]] ++ [[Dat.int IntKind.u8 (IntKind.wrap IntKind.u8 (Int.ofNat (ByteArray.size z11)))]]) + List.length (bytesEs z11)) * 2 ≤ 70368744177664) && true then x_ref02_Put_L0 v_r (v_out ++ [[Dat.int IntKind.u8 (IntKind.wrap IntKind.u8 z7)]] ++ [[Dat.int IntKind.u8 (IntKind.wrap IntKind.u8 (Int.ofNat (ByteArray.size z11)))]] ++ bytesEs z11) (IntKind.wrap IntKind.i64 (v_i + 1)) γ K else none else none else x_ref02_Put_L0 v_r (v_out ++ [[Dat.int IntKind.u8 (IntKind.wrap IntKind.u8 z7)]]) (IntKind.wrap IntKind.i64 (v_i + 1)) γ K else none else none else K (Ex.exit 0) v_out v_i else none
theorem e_ref02_Put_L0 (p : Par) (x_ref02_Put_L0 : Ty_ref02_Put_L0) (x_ref02_Put_L3 : Ty_ref02_Put_L3) (v_r : List (List Dat)) (v_out : List (List Dat)) (v_i : Int) (γ : Type) (K : Ex × Vars → Option γ) : roundK (cfg p) (T_ref02_Put_L0 x_ref02_Put_L3) (L_ref02_Put_L0 x_ref02_Put_L3) 15 0 [AVal.dat (Dat.sl v_r)] ([AVal.dat (Dat.sl v_out), AVal.dat (Dat.int IntKind.i64 v_i)], []) γ (contL (fun v => P_ref02_Put_L0 x_ref02_Put_L0 noneL3 [AVal.dat (Dat.sl v_r)] v γ K) K) = Sp.B_ref02_Put_L0 x_ref02_Put_L0 x_ref02_Put_L3 v_r v_out v_i γ (fun e x0 x1 => K (e, ([AVal.dat (Dat.sl x0), AVal.dat (Dat.int IntKind.i64 x1)], []))) := by kernel_rfl
def Sp.ref02_Put_L0 : Nat → Ty_ref02_Put_L0
  | 0 => fun _ _ _ _ _ => none
  | n + 1 => Sp.B_ref02_Put_L0 (Sp.ref02_Put_L0 n) (Sp.ref02_Put_L3 fuel)
theorem E0_ref02_Put_L0 (p : Par)   : ∀ n, EntOkL (cfg p) 15 0 (P_ref02_Put_L0 (Sp.ref02_Put_L0  n) noneL3) := entL_rounds (tab_loop (tab_nil _) (E_ref02_Put_L3 p fuel (entL_none _ _ _))) (by kernel_rfl) (fun c v γ K => by unfold P_ref02_Put_L0; split <;> rfl) fun n c v γ K q h => by
  unfold P_ref02_Put_L0 at h
  split at h
  · exact (e_ref02_Put_L0 p _ _ _ _ _ _ _).trans h
  · cases h
theorem E_ref02_Put_L0 (p : Par)   (n : Nat) {F : Loop3} (hF : EntOkL (cfg p) 15 0 F) : EntOkL (cfg p) 15 0 (P_ref02_Put_L0 (Sp.ref02_Put_L0  n) F) := by
  intro c v γ K q h
  unfold P_ref02_Put_L0 at h
  split at h
  · exact E0_ref02_Put_L0 p   n _ _ _ _ _ h
  · exact hF _ _ _ _ _ h
abbrev Ty_ref02_Put : Type 1 := List (List Dat) → (γ : Type) → (List (List Dat) → Option γ) → Option γ
def P_ref02_Put (X : Ty_ref02_Put) (F : Ent3) : Ent3 := fun a s γ K => match a, s with
  | [AVal.dat (Dat.sl v_r)], [] => X v_r γ (fun r0 => K ([(AVal.dat (Dat.sl r0), Own.none)], []))
  | a, s => F a s γ K
def T_ref02_Put (x_ref02_Put_L0 : Ty_ref02_Put_L0) : CallK := noneK
def L_ref02_Put (x_ref02_Put_L0 : Ty_ref02_Put_L0) : LoopK := (addL noneL 15 0 (P_ref02_Put_L0 x_ref02_Put_L0 noneL3))
def Sp.B_ref02_Put (x_ref02_Put_L0 : Ty_ref02_Put_L0) (v_r : List (List Dat)) (γ : Type) (K : List (List Dat) → Option γ) : Option γ := x_ref02_Put_L0 v_r [[Dat.int IntKind.u8 (IntKind.wrap IntKind.u8 (Int.ofNat (List.length v_r)))]] 0 γ fun (z3 : Ex) (z4 : List (List Dat)) (z5 : Int) => bif sized z4 1 then bif Ex.isExit z3 0 then K z4 else bif Ex.isRet z3 then none else none else none
theorem e_ref02_Put (p : Par) (x_ref02_Put_L0 : Ty_ref02_Put_L0) (v_r : List (List Dat)) (γ : Type) (K : List Ent × Sig → Option γ) : evFK (cfg p) (T_ref02_Put x_ref02_Put_L0) (L_ref02_Put x_ref02_Put_L0) 15 [AVal.dat (Dat.sl v_r)] [] γ K = Sp.B_ref02_Put x_ref02_Put_L0 v_r γ (fun r0 => K ([(AVal.dat (Dat.sl r0), Own.none)], [])) := by kernel_rfl
def Sp.ref02_Put : Ty_ref02_Put := Sp.B_ref02_Put (Sp.ref02_Put_L0 fuel)
theorem E_ref02_Put (p : Par) {F : Ent3} (hF : EntOk (cfg p) 15 F) : EntOk (cfg p) 15 (P_ref02_Put Sp.ref02_Put F) := by
  intro a s γ K q h
  unfold P_ref02_Put at h
  split at h
  · exact body_ok (tab_loop (tab_nil _) (E_ref02_Put_L0 p fuel (entL_none _ _ _))) rfl ((e_ref02_Put p _ _ _ _).trans h)
  · exact hF _ _ _ _ _ h
abbrev Ty_law02_RowCodes : Type 1 := List (List Dat) → List (List Dat) → (γ : Type) → (Bool → Option γ) → Option γ
def P_law02_RowCodes (X : Ty_law02_RowCodes) (F : Ent3) : Ent3 := fun a s γ K => match a, s with
  | [AVal.dat (Dat.sl v_r), AVal.dat (Dat.sl v_more)], [] => X v_r v_more γ (fun r0 => K ([(AVal.dat (Dat.bool r0), Own.none)], []))
  | a, s => F a s γ K
def T_law02_RowCodes (x_law02_large : Ty_law02_large) (x_law02_lives : Ty_law02_lives) (x_row_Put : Ty_row_Put) (x_ref02_Check : Ty_ref02_Check) (x_row_Check : Ty_row_Check) (x_row_Size : Ty_row_Size) (x_row_Get : Ty_row_Get) (x_ref02_Put : Ty_ref02_Put) (x_row_Same : Ty_row_Same) : CallK := (addK (addK (addK (addK (addK (addK (addK (addK (addK noneK 8 (P_law02_large x_law02_large none3)) 9 (P_law02_lives x_law02_lives none3)) 10 (P_row_Put x_row_Put none3)) 11 (P_ref02_Check x_ref02_Check none3)) 12 (P_row_Check x_row_Check none3)) 13 (P_row_Size x_row_Size none3)) 14 (P_row_Get x_row_Get none3)) 15 (P_ref02_Put x_ref02_Put none3)) 16 (P_row_Same x_row_Same none3))
def L_law02_RowCodes (x_law02_large : Ty_law02_large) (x_law02_lives : Ty_law02_lives) (x_row_Put : Ty_row_Put) (x_ref02_Check : Ty_ref02_Check) (x_row_Check : Ty_row_Check) (x_row_Size : Ty_row_Size) (x_row_Get : Ty_row_Get) (x_ref02_Put : Ty_ref02_Put) (x_row_Same : Ty_row_Same) : LoopK := noneL
def Sp.B_law02_RowCodes (x_law02_large : Ty_law02_large) (x_law02_lives : Ty_law02_lives) (x_row_Put : Ty_row_Put) (x_ref02_Check : Ty_ref02_Check) (x_row_Check : Ty_row_Check) (x_row_Size : Ty_row_Size) (x_row_Get : Ty_row_Get) (x_ref02_Put : Ty_ref02_Put) (x_row_Same : Ty_row_Same) (v_r : List (List Dat)) (v_more : List (List Dat)) (γ : Type) (K : Bool → Option γ) : Option γ := x_law02_large v_r γ fun (z4 : Bool) =>
    bif z4 then x_law02_lives γ fun (z5 : Bool) => K z5
    else
      bif decide (1000 < Int.ofNat (List.length v_more)) then x_law02_lives γ fun (z6 : Bool) => K z6
      else
        x_row_Put v_r γ fun (z7 : List (List Dat)) (z8 : Int) =>
          x_law02_lives γ fun (z9 : Bool) =>
            bif !z9 then K false
            else
              x_ref02_Check v_r γ fun (z10 : Bool) =>
                bif !z10 then bif decide (z8 = 20) then bif decide (Int.ofNat (List.length z7) = 0) then x_row_Check v_r γ fun (z11 : Int) => bif decide (z11 = 20) then x_row_Size v_r γ fun (z12 : Int) => K (decide (z12 = 0)) else K false else K false else K false
                else
                  bif sized z7 1 && true && decide ((0 + List.length z7) * 2 ≤ 70368744177664) && true then
                    bif sized ([] ++ z7) 1 && sized v_more 1 && true && decide ((List.length ([] ++ z7) + List.length v_more) * 2 ≤ 70368744177664) && true then
                      x_row_Get ([] ++ z7 ++ v_more) γ fun (z13 : List (List Dat)) (z14 z15 : Int) =>
                        bif decide (z8 = 0) then
                          x_row_Check v_r γ fun (z16 : Int) =>
                            bif decide (z16 = 0) then
                              match esBytes z7 with
                              | some z18 =>
                                x_ref02_Put v_r γ fun (z19 : List (List Dat)) =>
                                  match esBytes z19 with
                                  | some z21 => bif decide (ByteArray.mk (Array.mk z18) = ByteArray.mk (Array.mk z21)) then bif decide (z15 = 0) then bif decide (z14 = Int.ofNat (List.length z7)) then x_row_Same z13 v_r γ fun (z22 : Bool) => bif z22 then x_row_Size v_r γ fun (z23 : Int) => K (decide (z23 = z14)) else K false else K false else K false else K false
                                  | none => none
                              | none => none
                            else K false
                        else K false
                    else none
                  else none
theorem e_law02_RowCodes (p : Par) (x_law02_large : Ty_law02_large) (x_law02_lives : Ty_law02_lives) (x_row_Put : Ty_row_Put) (x_ref02_Check : Ty_ref02_Check) (x_row_Check : Ty_row_Check) (x_row_Size : Ty_row_Size) (x_row_Get : Ty_row_Get) (x_ref02_Put : Ty_ref02_Put) (x_row_Same : Ty_row_Same) (v_r : List (List Dat)) (v_more : List (List Dat)) (γ : Type) (K : List Ent × Sig → Option γ) : evFK (cfg p) (T_law02_RowCodes x_law02_large x_law02_lives x_row_Put x_ref02_Check x_row_Check x_row_Size x_row_Get x_ref02_Put x_row_Same) (L_law02_RowCodes x_law02_large x_law02_lives x_row_Put x_ref02_Check x_row_Check x_row_Size x_row_Get x_ref02_Put x_row_Same) 3 [AVal.dat (Dat.sl v_r), AVal.dat (Dat.sl v_more)] [] γ K = Sp.B_law02_RowCodes x_law02_large x_law02_lives x_row_Put x_ref02_Check x_row_Check x_row_Size x_row_Get x_ref02_Put x_row_Same v_r v_more γ (fun r0 => K ([(AVal.dat (Dat.bool r0), Own.none)], [])) := by kernel_rfl
def Sp.law02_RowCodes : Ty_law02_RowCodes := Sp.B_law02_RowCodes Sp.law02_large Sp.law02_lives Sp.row_Put Sp.ref02_Check Sp.row_Check Sp.row_Size Sp.row_Get Sp.ref02_Put Sp.row_Same
theorem E_law02_RowCodes (p : Par) {F : Ent3} (hF : EntOk (cfg p) 3 F) : EntOk (cfg p) 3 (P_law02_RowCodes Sp.law02_RowCodes F) := by
  intro a s γ K q h
  unfold P_law02_RowCodes at h
  split at h
  · exact body_ok (tab_call (tab_call (tab_call (tab_call (tab_call (tab_call (tab_call (tab_call (tab_call (tab_nil _) (E_law02_large p (ent_none _ _))) (E_law02_lives p (ent_none _ _))) (E_row_Put p (ent_none _ _))) (E_ref02_Check p (ent_none _ _))) (E_row_Check p (ent_none _ _))) (E_row_Size p (ent_none _ _))) (E_row_Get p (ent_none _ _))) (E_ref02_Put p (ent_none _ _))) (E_row_Same p (ent_none _ _))) rfl ((e_law02_RowCodes p _ _ _ _ _ _ _ _ _ _ _ _ _).trans h)
  · exact hF _ _ _ _ _ h
abbrev Ty_ref02_getValue_L1 : Type 1 := List (List Dat) → Int → Int → Int → ByteArray → Int → Int → ByteArray → (γ : Type) → (Ex → Int → Int → Int → ByteArray → Int → Int → ByteArray → Option γ) → Option γ
def P_ref02_getValue_L1 (X : Ty_ref02_getValue_L1) (F : Loop3) : Loop3 := fun a s γ K => match a, s with
  | [AVal.dat (Dat.sl v_b), AVal.loc 2 0, AVal.loc 4 0], ([AVal.dat (Dat.int IntKind.i64 v_k), AVal.agg [(Dat.int IntKind.i64 v_box0, Own.none), (Dat.int IntKind.i64 v_box1, Own.none), (Dat.str v_box2, Own.none)], AVal.agg [(Dat.int IntKind.i64 v_box0_1, Own.none), (Dat.int IntKind.i64 v_box1_1, Own.none), (Dat.str v_box2_1, Own.none)]], []) => X v_b v_k v_box0 v_box1 v_box2 v_box0_1 v_box1_1 v_box2_1 γ (fun e x0 x1 x2 x3 x4 x5 x6 => K (e, ([AVal.dat (Dat.int IntKind.i64 x0), AVal.agg [(Dat.int IntKind.i64 x1, Own.none), (Dat.int IntKind.i64 x2, Own.none), (Dat.str x3, Own.none)], AVal.agg [(Dat.int IntKind.i64 x4, Own.none), (Dat.int IntKind.i64 x5, Own.none), (Dat.str x6, Own.none)]], [])))
  | a, s => F a s γ K
def T_ref02_getValue_L1  : CallK := noneK
def L_ref02_getValue_L1  : LoopK := noneL
def Sp.B_ref02_getValue_L1 (x_ref02_getValue_L1 : Ty_ref02_getValue_L1)  (v_b : List (List Dat)) (v_k : Int) (v_box0 : Int) (v_box1 : Int) (v_box2 : ByteArray) (v_box0_1 : Int) (v_box1_1 : Int) (v_box2_1 : ByteArray) (γ : Type) (K : Ex → Int → Int → Int → ByteArray → Int → Int → ByteArray → Option γ) : Option γ := bif decide (v_k < 8) then elemAt v_b v_k fun (z10 : List Dat) => bif List.length z10 == 1 then cellAt z10 0 fun (z11 : Dat) => Aev.asInt IntKind.u8 z11 fun (z12 : Int) => x_ref02_getValue_L1 v_b (IntKind.wrap IntKind.i64 (v_k + 1)) v_box0 v_box1 v_box2 v_box0_1 (IntKind.wrap IntKind.i64 (IntKind.wrap IntKind.i64 (256 * v_box1_1) + IntKind.wrap IntKind.i64 z12)) v_box2_1 γ K else none else K (Ex.exit 1) v_k v_box0 v_box1 v_box2 v_box0_1 v_box1_1 v_box2_1
theorem e_ref02_getValue_L1 (p : Par) (x_ref02_getValue_L1 : Ty_ref02_getValue_L1)  (v_b : List (List Dat)) (v_k : Int) (v_box0 : Int) (v_box1 : Int) (v_box2 : ByteArray) (v_box0_1 : Int) (v_box1_1 : Int) (v_box2_1 : ByteArray) (γ : Type) (K : Ex × Vars → Option γ) : roundK (cfg p) (T_ref02_getValue_L1 ) (L_ref02_getValue_L1 ) 40 1 [AVal.dat (Dat.sl v_b), AVal.loc 2 0, AVal.loc 4 0] ([AVal.dat (Dat.int IntKind.i64 v_k), AVal.agg [(Dat.int IntKind.i64 v_box0, Own.none), (Dat.int IntKind.i64 v_box1, Own.none), (Dat.str v_box2, Own.none)], AVal.agg [(Dat.int IntKind.i64 v_box0_1, Own.none), (Dat.int IntKind.i64 v_box1_1, Own.none), (Dat.str v_box2_1, Own.none)]], []) γ (contL (fun v => P_ref02_getValue_L1 x_ref02_getValue_L1 noneL3 [AVal.dat (Dat.sl v_b), AVal.loc 2 0, AVal.loc 4 0] v γ K) K) = Sp.B_ref02_getValue_L1 x_ref02_getValue_L1  v_b v_k v_box0 v_box1 v_box2 v_box0_1 v_box1_1 v_box2_1 γ (fun e x0 x1 x2 x3 x4 x5 x6 => K (e, ([AVal.dat (Dat.int IntKind.i64 x0), AVal.agg [(Dat.int IntKind.i64 x1, Own.none), (Dat.int IntKind.i64 x2, Own.none), (Dat.str x3, Own.none)], AVal.agg [(Dat.int IntKind.i64 x4, Own.none), (Dat.int IntKind.i64 x5, Own.none), (Dat.str x6, Own.none)]], []))) := by kernel_rfl
def Sp.ref02_getValue_L1 : Nat → Ty_ref02_getValue_L1
  | 0 => fun _ _ _ _ _ _ _ _ _ _ => none
  | n + 1 => Sp.B_ref02_getValue_L1 (Sp.ref02_getValue_L1 n) 
theorem E0_ref02_getValue_L1 (p : Par)   : ∀ n, EntOkL (cfg p) 40 1 (P_ref02_getValue_L1 (Sp.ref02_getValue_L1  n) noneL3) := entL_rounds (tab_nil _) (by kernel_rfl) (fun c v γ K => by unfold P_ref02_getValue_L1; split <;> rfl) fun n c v γ K q h => by
  unfold P_ref02_getValue_L1 at h
  split at h
  · exact (e_ref02_getValue_L1 p _  _ _ _ _ _ _ _ _ _ _).trans h
  · cases h
theorem E_ref02_getValue_L1 (p : Par)   (n : Nat) {F : Loop3} (hF : EntOkL (cfg p) 40 1 F) : EntOkL (cfg p) 40 1 (P_ref02_getValue_L1 (Sp.ref02_getValue_L1  n) F) := by
  intro c v γ K q h
  unfold P_ref02_getValue_L1 at h
  split at h
  · exact E0_ref02_getValue_L1 p   n _ _ _ _ _ h
  · exact hF _ _ _ _ _ h
abbrev Ty_ref02_getValue : Type 1 := List (List Dat) → (γ : Type) → (Int → Int → ByteArray → Int → Option γ) → Option γ
def P_ref02_getValue (X : Ty_ref02_getValue) (F : Ent3) : Ent3 := fun a s γ K => match a, s with
  | [AVal.dat (Dat.sl v_b)], [] => X v_b γ (fun r0 r1 r2 r3 => K ([(AVal.agg [(Dat.int IntKind.i64 r0, Own.none), (Dat.int IntKind.i64 r1, Own.none), (Dat.str r2, Own.none)], Own.none), (AVal.dat (Dat.int IntKind.i64 r3), Own.none)], []))
  | a, s => F a s γ K
def T_ref02_getValue (x_ref01_Check : Ty_ref01_Check) (x_ref02_getValue_L1 : Ty_ref02_getValue_L1) : CallK := (addK noneK 32 (P_ref01_Check x_ref01_Check none3))
def L_ref02_getValue (x_ref01_Check : Ty_ref01_Check) (x_ref02_getValue_L1 : Ty_ref02_getValue_L1) : LoopK := (addL noneL 40 1 (P_ref02_getValue_L1 x_ref02_getValue_L1 noneL3))
def Sp.B_ref02_getValue (x_ref01_Check : Ty_ref01_Check) (x_ref02_getValue_L1 : Ty_ref02_getValue_L1) (v_b : List (List Dat)) (γ : Type) (K : Int → Int → ByteArray → Int → Option γ) : Option γ := bif decide (Int.ofNat (List.length v_b) = 0) then K 0 0 (bs []) 0
  else
    elemAt v_b 0 fun (z3 : List Dat) =>
      bif List.length z3 == 1 then
        cellAt z3 0 fun (z4 : Dat) =>
          Aev.asInt IntKind.u8 z4 fun (z5 : Int) =>
            elemAt v_b 0 fun (z6 : List Dat) =>
              bif List.length z6 == 1 then
                cellAt z6 0 fun (z7 : Dat) =>
                  Aev.asInt IntKind.u8 z7 fun (z8 : Int) =>
                    bif decide (z8 = 0) then K (IntKind.wrap IntKind.i64 z5) 0 (bs []) 1
                    else
                      elemAt v_b 0 fun (z9 : List Dat) =>
                        bif List.length z9 == 1 then
                          cellAt z9 0 fun (z10 : Dat) =>
                            Aev.asInt IntKind.u8 z10 fun (z11 : Int) =>
                              bif decide (z11 = 1) then
                                bif decide (2 ≤ Int.ofNat (List.length v_b)) then elemAt v_b 1 fun (z12 : List Dat) => bif List.length z12 == 1 then cellAt z12 0 fun (z13 : Dat) => Aev.asInt IntKind.u8 z13 fun (z14 : Int) => x_ref01_Check (IntKind.wrap IntKind.i64 z5) (IntKind.wrap IntKind.i64 z14) (bs []) γ fun (z15 : Bool) => bif !z15 then K 0 0 (bs []) 0 else K (IntKind.wrap IntKind.i64 z5) (IntKind.wrap IntKind.i64 z14) (bs []) 2 else none
                                else
                                  elemAt v_b 0 fun (z16 : List Dat) =>
                                    bif List.length z16 == 1 then
                                      cellAt z16 0 fun (z17 : Dat) =>
                                        Aev.asInt IntKind.u8 z17 fun (z18 : Int) =>
                                          bif decide (z18 = 2) then
                                            bif decide (8 ≤ Int.ofNat (List.length v_b)) then x_ref02_getValue_L1 v_b 1 0 0 (bs []) (IntKind.wrap IntKind.i64 z5) 0 (bs []) γ fun (z19 : Ex) (z20 z21 z22 : Int) (z23 : ByteArray) (z24 z25 : Int) (z26 : ByteArray) => bif Ex.isExit z19 1 then x_ref01_Check z24 (IntKind.wrap IntKind.i64 (z25 - 9007199254740992)) z26 γ fun (z27 : Bool) => bif !z27 then K 0 0 (bs []) 0 else K z24 (IntKind.wrap IntKind.i64 (z25 - 9007199254740992)) z26 8 else bif Ex.isRet z19 then none else none
                                            else
                                              elemAt v_b 0 fun (z28 : List Dat) =>
                                                bif List.length z28 == 1 then
                                                  cellAt z28 0 fun (z29 : Dat) =>
                                                    Aev.asInt IntKind.u8 z29 fun (z30 : Int) =>
                                                      bif decide (z30 = 3) then
                                                        bif decide (2 ≤ Int.ofNat (List.length v_b)) then
                                                          elemAt v_b 1 fun (z31 : List Dat) =>
                                                            bif List.length z31 == 1 then
                                                              cellAt z31 0 fun (z32 : Dat) =>
                                                                Aev.asInt IntKind.u8 z32 fun (z33 : Int) =>
                                                                  bif decide (IntKind.wrap IntKind.i64 z33 ≤ IntKind.wrap IntKind.i64 (Int.ofNat (List.length v_b) - 2)) then
                                                                    elemAt v_b 1 fun (z34 : List Dat) =>
                                                                      bif List.length z34 == 1 then
                                                                        cellAt z34 0 fun (z35 : Dat) =>
                                                                          Aev.asInt IntKind.u8 z35 fun (z36 : Int) =>
                                                                            bif decide (2 ≤ IntKind.wrap IntKind.i64 (2 + IntKind.wrap IntKind.i64 z36)) && decide (IntKind.wrap IntKind.i64 (2 + IntKind.wrap IntKind.i64 z36) ≤ Int.ofNat (List.length v_b)) && true && sized v_b 1 then
                                                                              match esBytes (List.drop 2 (List.take (Int.toNat (IntKind.wrap IntKind.i64 (2 + IntKind.wrap IntKind.i64 z36))) v_b)) with
                                                                              | some z38 => x_ref01_Check (IntKind.wrap IntKind.i64 z5) 0 (ByteArray.mk (Array.mk z38)) γ fun (z39 : Bool) => bif !z39 then K 0 0 (bs []) 0 else K (IntKind.wrap IntKind.i64 z5) 0 (ByteArray.mk (Array.mk z38)) (IntKind.wrap IntKind.i64 (2 + IntKind.wrap IntKind.i64 z36))
                                                                              | none => none
                                                                            else none
                                                                      else none
                                                                  else K 0 0 (bs []) 0
                                                            else none
                                                        else K 0 0 (bs []) 0
                                                      else K 0 0 (bs []) 0
                                                else none
                                          else
                                            elemAt v_b 0 fun (z41 : List Dat) =>
                                              bif List.length z41 == 1 then
                                                cellAt z41 0 fun (z42 : Dat) =>
                                                  Aev.asInt IntKind.u8 z42 fun (z43 : Int) =>
                                                    bif decide (z43 = 3) then
                                                      bif decide (2 ≤ Int.ofNat (List.length v_b)) then
                                                        elemAt v_b 1 fun (z44 : List Dat) =>
                                                          bif List.length z44 == 1 then
                                                            cellAt z44 0 fun (z45 : Dat) =>
                                                              Aev.asInt IntKind.u8 z45 fun (z46 : Int) =>
                                                                bif decide (IntKind.wrap IntKind.i64 z46 ≤ IntKind.wrap IntKind.i64 (Int.ofNat (List.length v_b) - 2)) then
                                                                  elemAt v_b 1 fun (z47 : List Dat) =>
                                                                    bif List.length z47 == 1 then
                                                                      cellAt z47 0 fun (z48 : Dat) =>
                                                                        Aev.asInt IntKind.u8 z48 fun (z49 : Int) =>
                                                                          bif decide (2 ≤ IntKind.wrap IntKind.i64 (2 + IntKind.wrap IntKind.i64 z49)) && decide (IntKind.wrap IntKind.i64 (2 + IntKind.wrap IntKind.i64 z49) ≤ Int.ofNat (List.length v_b)) && true && sized v_b 1 then
                                                                            match esBytes (List.drop 2 (List.take (Int.toNat (IntKind.wrap IntKind.i64 (2 + IntKind.wrap IntKind.i64 z49))) v_b)) with
                                                                            | some z51 => x_ref01_Check (IntKind.wrap IntKind.i64 z5) 0 (ByteArray.mk (Array.mk z51)) γ fun (z52 : Bool) => bif !z52 then K 0 0 (bs []) 0 else K (IntKind.wrap IntKind.i64 z5) 0 (ByteArray.mk (Array.mk z51)) (IntKind.wrap IntKind.i64 (2 + IntKind.wrap IntKind.i64 z49))
                                                                            | none => none
                                                                          else none
                                                                    else none
                                                                else K 0 0 (bs []) 0
                                                          else none
                                                      else K 0 0 (bs []) 0
                                                    else K 0 0 (bs []) 0
                                              else none
                                    else none
                              else
                                elemAt v_b 0 fun (z54 : List Dat) =>
                                  bif List.length z54 == 1 then
                                    cellAt z54 0 fun (z55 : Dat) =>
                                      Aev.asInt IntKind.u8 z55 fun (z56 : Int) =>
                                        bif decide (z56 = 2) then
                                          bif decide (8 ≤ Int.ofNat (List.length v_b)) then x_ref02_getValue_L1 v_b 1 0 0 (bs []) (IntKind.wrap IntKind.i64 z5) 0 (bs []) γ fun (z57 : Ex) (z58 z59 z60 : Int) (z61 : ByteArray) (z62 z63 : Int) (z64 : ByteArray) => bif Ex.isExit z57 1 then x_ref01_Check z62 (IntKind.wrap IntKind.i64 (z63 - 9007199254740992)) z64 γ fun (z65 : Bool) => bif !z65 then K 0 0 (bs []) 0 else K z62 (IntKind.wrap IntKind.i64 (z63 - 9007199254740992)) z64 8 else bif Ex.isRet z57 then none else none
                                          else
                                            elemAt v_b 0 fun (z66 : List Dat) =>
                                              bif List.length z66 == 1 then
                                                cellAt z66 0 fun (z67 : Dat) =>
                                                  Aev.asInt IntKind.u8 z67 fun (z68 : Int) =>
                                                    bif decide (z68 = 3) then
                                                      bif decide (2 ≤ Int.ofNat (List.length v_b)) then
                                                        elemAt v_b 1 fun (z69 : List Dat) =>
                                                          bif List.length z69 == 1 then
                                                            cellAt z69 0 fun (z70 : Dat) =>
                                                              Aev.asInt IntKind.u8 z70 fun (z71 : Int) =>
                                                                bif decide (IntKind.wrap IntKind.i64 z71 ≤ IntKind.wrap IntKind.i64 (Int.ofNat (List.length v_b) - 2)) then
                                                                  elemAt v_b 1 fun (z72 : List Dat) =>
                                                                    bif List.length z72 == 1 then
                                                                      cellAt z72 0 fun (z73 : Dat) =>
                                                                        Aev.asInt IntKind.u8 z73 fun (z74 : Int) =>
                                                                          bif decide (2 ≤ IntKind.wrap IntKind.i64 (2 + IntKind.wrap IntKind.i64 z74)) && decide (IntKind.wrap IntKind.i64 (2 + IntKind.wrap IntKind.i64 z74) ≤ Int.ofNat (List.length v_b)) && true && sized v_b 1 then
                                                                            match esBytes (List.drop 2 (List.take (Int.toNat (IntKind.wrap IntKind.i64 (2 + IntKind.wrap IntKind.i64 z74))) v_b)) with
                                                                            | some z76 => x_ref01_Check (IntKind.wrap IntKind.i64 z5) 0 (ByteArray.mk (Array.mk z76)) γ fun (z77 : Bool) => bif !z77 then K 0 0 (bs []) 0 else K (IntKind.wrap IntKind.i64 z5) 0 (ByteArray.mk (Array.mk z76)) (IntKind.wrap IntKind.i64 (2 + IntKind.wrap IntKind.i64 z74))
                                                                            | none => none
                                                                          else none
                                                                    else none
                                                                else K 0 0 (bs []) 0
                                                          else none
                                                      else K 0 0 (bs []) 0
                                                    else K 0 0 (bs []) 0
                                              else none
                                        else
                                          elemAt v_b 0 fun (z79 : List Dat) =>
                                            bif List.length z79 == 1 then
                                              cellAt z79 0 fun (z80 : Dat) =>
                                                Aev.asInt IntKind.u8 z80 fun (z81 : Int) =>
                                                  bif decide (z81 = 3) then
                                                    bif decide (2 ≤ Int.ofNat (List.length v_b)) then
                                                      elemAt v_b 1 fun (z82 : List Dat) =>
                                                        bif List.length z82 == 1 then
                                                          cellAt z82 0 fun (z83 : Dat) =>
                                                            Aev.asInt IntKind.u8 z83 fun (z84 : Int) =>
                                                              bif decide (IntKind.wrap IntKind.i64 z84 ≤ IntKind.wrap IntKind.i64 (Int.ofNat (List.length v_b) - 2)) then
                                                                elemAt v_b 1 fun (z85 : List Dat) =>
                                                                  bif List.length z85 == 1 then
                                                                    cellAt z85 0 fun (z86 : Dat) =>
                                                                      Aev.asInt IntKind.u8 z86 fun (z87 : Int) =>
                                                                        bif decide (2 ≤ IntKind.wrap IntKind.i64 (2 + IntKind.wrap IntKind.i64 z87)) && decide (IntKind.wrap IntKind.i64 (2 + IntKind.wrap IntKind.i64 z87) ≤ Int.ofNat (List.length v_b)) && true && sized v_b 1 then
                                                                          match esBytes (List.drop 2 (List.take (Int.toNat (IntKind.wrap IntKind.i64 (2 + IntKind.wrap IntKind.i64 z87))) v_b)) with
                                                                          | some z89 => x_ref01_Check (IntKind.wrap IntKind.i64 z5) 0 (ByteArray.mk (Array.mk z89)) γ fun (z90 : Bool) => bif !z90 then K 0 0 (bs []) 0 else K (IntKind.wrap IntKind.i64 z5) 0 (ByteArray.mk (Array.mk z89)) (IntKind.wrap IntKind.i64 (2 + IntKind.wrap IntKind.i64 z87))
                                                                          | none => none
                                                                        else none
                                                                  else none
                                                              else K 0 0 (bs []) 0
                                                        else none
                                                    else K 0 0 (bs []) 0
                                                  else K 0 0 (bs []) 0
                                            else none
                                  else none
                        else none
              else none
      else none
theorem e_ref02_getValue (p : Par) (x_ref01_Check : Ty_ref01_Check) (x_ref02_getValue_L1 : Ty_ref02_getValue_L1) (v_b : List (List Dat)) (γ : Type) (K : List Ent × Sig → Option γ) : evFK (cfg p) (T_ref02_getValue x_ref01_Check x_ref02_getValue_L1) (L_ref02_getValue x_ref01_Check x_ref02_getValue_L1) 40 [AVal.dat (Dat.sl v_b)] [] γ K = Sp.B_ref02_getValue x_ref01_Check x_ref02_getValue_L1 v_b γ (fun r0 r1 r2 r3 => K ([(AVal.agg [(Dat.int IntKind.i64 r0, Own.none), (Dat.int IntKind.i64 r1, Own.none), (Dat.str r2, Own.none)], Own.none), (AVal.dat (Dat.int IntKind.i64 r3), Own.none)], [])) := by kernel_rfl
def Sp.ref02_getValue : Ty_ref02_getValue := Sp.B_ref02_getValue Sp.ref01_Check (Sp.ref02_getValue_L1 fuel)
theorem E_ref02_getValue (p : Par) {F : Ent3} (hF : EntOk (cfg p) 40 F) : EntOk (cfg p) 40 (P_ref02_getValue Sp.ref02_getValue F) := by
  intro a s γ K q h
  unfold P_ref02_getValue at h
  split at h
  · exact body_ok (tab_loop (tab_call (tab_nil _) (E_ref01_Check p (ent_none _ _))) (E_ref02_getValue_L1 p fuel (entL_none _ _ _))) rfl ((e_ref02_getValue p _ _ _ _ _).trans h)
  · exact hF _ _ _ _ _ h
abbrev Ty_ref02_Get_L0 : Type 1 := List (List Dat) → List (List Dat) → Int → Bool → Int → List (List Dat) → Int → (γ : Type) → (Ex → List (List Dat) → Int → Bool → Int → List (List Dat) → Int → Option γ) → Option γ
def P_ref02_Get_L0 (X : Ty_ref02_Get_L0) (F : Loop3) : Loop3 := fun a s γ K => match a, s with
  | [AVal.dat (Dat.sl v_b)], ([AVal.dat (Dat.sl v_), AVal.dat (Dat.int IntKind.i64 v__1), AVal.dat (Dat.bool v__2), AVal.dat (Dat.int IntKind.i64 v_at), AVal.dat (Dat.sl v_out), AVal.dat (Dat.int IntKind.i64 v_i)], []) => X v_b v_ v__1 v__2 v_at v_out v_i γ (fun e x0 x1 x2 x3 x4 x5 => K (e, ([AVal.dat (Dat.sl x0), AVal.dat (Dat.int IntKind.i64 x1), AVal.dat (Dat.bool x2), AVal.dat (Dat.int IntKind.i64 x3), AVal.dat (Dat.sl x4), AVal.dat (Dat.int IntKind.i64 x5)], [])))
  | a, s => F a s γ K
def T_ref02_Get_L0 (x_ref02_getValue : Ty_ref02_getValue) : CallK := (addK noneK 40 (P_ref02_getValue x_ref02_getValue none3))
def L_ref02_Get_L0 (x_ref02_getValue : Ty_ref02_getValue) : LoopK := noneL
def Sp.B_ref02_Get_L0 (x_ref02_Get_L0 : Ty_ref02_Get_L0) (x_ref02_getValue : Ty_ref02_getValue) (v_b : List (List Dat)) (v_ : List (List Dat)) (v__1 : Int) (v__2 : Bool) (v_at : Int) (v_out : List (List Dat)) (v_i : Int) (γ : Type) (K : Ex → List (List Dat) → Int → Bool → Int → List (List Dat) → Int → Option γ) : Option γ := bif sized v_ 3 then bif sized v_out 3 then elemAt v_b 0 fun (z9 : List Dat) => bif List.length z9 == 1 then cellAt z9 0 fun (z10 : Dat) => Aev.asInt IntKind.u8 z10 fun (z11 : Int) => bif decide (v_i < IntKind.wrap IntKind.i64 z11) then bif decide (0 ≤ v_at) && decide (v_at ≤ Int.ofNat (List.length v_b)) && decide (Int.ofNat (List.length v_b) ≤ Int.ofNat (List.length v_b)) && true && sized v_b 1 then x_ref02_getValue (List.drop (Int.toNat v_at) (List.take (Int.toNat (Int.ofNat (List.length v_b))) v_b)) γ fun (z12 z13 : Int) (z14 : ByteArray) (z15 : Int) => bif decide (z15 = 0) then K Ex.ret [] 0 false v_at v_out v_i else bif sized v_out 3 && true && true && decide ((List.length v_out + 1) * 33 ≤ 70368744177664) && true then x_ref02_Get_L0 v_b v_ v__1 v__2 (IntKind.wrap IntKind.i64 (v_at + z15)) (v_out ++ [[Dat.int IntKind.i64 z12, Dat.int IntKind.i64 z13, Dat.str z14]]) (IntKind.wrap IntKind.i64 (v_i + 1)) γ K else none else none else K (Ex.exit 0) v_ v__1 v__2 v_at v_out v_i else none else none else none
theorem e_ref02_Get_L0 (p : Par) (x_ref02_Get_L0 : Ty_ref02_Get_L0) (x_ref02_getValue : Ty_ref02_getValue) (v_b : List (List Dat)) (v_ : List (List Dat)) (v__1 : Int) (v__2 : Bool) (v_at : Int) (v_out : List (List Dat)) (v_i : Int) (γ : Type) (K : Ex × Vars → Option γ) : roundK (cfg p) (T_ref02_Get_L0 x_ref02_getValue) (L_ref02_Get_L0 x_ref02_getValue) 17 0 [AVal.dat (Dat.sl v_b)] ([AVal.dat (Dat.sl v_), AVal.dat (Dat.int IntKind.i64 v__1), AVal.dat (Dat.bool v__2), AVal.dat (Dat.int IntKind.i64 v_at), AVal.dat (Dat.sl v_out), AVal.dat (Dat.int IntKind.i64 v_i)], []) γ (contL (fun v => P_ref02_Get_L0 x_ref02_Get_L0 noneL3 [AVal.dat (Dat.sl v_b)] v γ K) K) = Sp.B_ref02_Get_L0 x_ref02_Get_L0 x_ref02_getValue v_b v_ v__1 v__2 v_at v_out v_i γ (fun e x0 x1 x2 x3 x4 x5 => K (e, ([AVal.dat (Dat.sl x0), AVal.dat (Dat.int IntKind.i64 x1), AVal.dat (Dat.bool x2), AVal.dat (Dat.int IntKind.i64 x3), AVal.dat (Dat.sl x4), AVal.dat (Dat.int IntKind.i64 x5)], []))) := by kernel_rfl
def Sp.ref02_Get_L0 : Nat → Ty_ref02_Get_L0
  | 0 => fun _ _ _ _ _ _ _ _ _ => none
  | n + 1 => Sp.B_ref02_Get_L0 (Sp.ref02_Get_L0 n) Sp.ref02_getValue
theorem E0_ref02_Get_L0 (p : Par)   : ∀ n, EntOkL (cfg p) 17 0 (P_ref02_Get_L0 (Sp.ref02_Get_L0  n) noneL3) := entL_rounds (tab_call (tab_nil _) (E_ref02_getValue p (ent_none _ _))) (by kernel_rfl) (fun c v γ K => by unfold P_ref02_Get_L0; split <;> rfl) fun n c v γ K q h => by
  unfold P_ref02_Get_L0 at h
  split at h
  · exact (e_ref02_Get_L0 p _ _ _ _ _ _ _ _ _ _ _).trans h
  · cases h
theorem E_ref02_Get_L0 (p : Par)   (n : Nat) {F : Loop3} (hF : EntOkL (cfg p) 17 0 F) : EntOkL (cfg p) 17 0 (P_ref02_Get_L0 (Sp.ref02_Get_L0  n) F) := by
  intro c v γ K q h
  unfold P_ref02_Get_L0 at h
  split at h
  · exact E0_ref02_Get_L0 p   n _ _ _ _ _ h
  · exact hF _ _ _ _ _ h
abbrev Ty_ref02_Get : Type 1 := List (List Dat) → (γ : Type) → (List (List Dat) → Int → Bool → Option γ) → Option γ
def P_ref02_Get (X : Ty_ref02_Get) (F : Ent3) : Ent3 := fun a s γ K => match a, s with
  | [AVal.dat (Dat.sl v_b)], [] => X v_b γ (fun r0 r1 r2 => K ([(AVal.dat (Dat.sl r0), Own.none), (AVal.dat (Dat.int IntKind.i64 r1), Own.none), (AVal.dat (Dat.bool r2), Own.none)], []))
  | a, s => F a s γ K
def T_ref02_Get (x_ref02_Get_L0 : Ty_ref02_Get_L0) : CallK := noneK
def L_ref02_Get (x_ref02_Get_L0 : Ty_ref02_Get_L0) : LoopK := (addL noneL 17 0 (P_ref02_Get_L0 x_ref02_Get_L0 noneL3))
def Sp.B_ref02_Get (x_ref02_Get_L0 : Ty_ref02_Get_L0) (v_b : List (List Dat)) (γ : Type) (K : List (List Dat) → Int → Bool → Option γ) : Option γ := bif decide (Int.ofNat (List.length v_b) = 0) then K [] 0 false else elemAt v_b 0 fun (z3 : List Dat) => bif List.length z3 == 1 then cellAt z3 0 fun (z4 : Dat) => Aev.asInt IntKind.u8 z4 fun (z5 : Int) => bif decide (32 < z5) then K [] 0 false else x_ref02_Get_L0 v_b [] 0 false 1 [] 0 γ fun (z6 : Ex) (z7 : List (List Dat)) (z8 : Int) (z9 : Bool) (z10 : Int) (z11 : List (List Dat)) (z12 : Int) => bif sized z7 3 then bif sized z11 3 then bif Ex.isExit z6 0 then K z11 z10 true else bif Ex.isRet z6 then K z7 z8 z9 else none else none else none else none
theorem e_ref02_Get (p : Par) (x_ref02_Get_L0 : Ty_ref02_Get_L0) (v_b : List (List Dat)) (γ : Type) (K : List Ent × Sig → Option γ) : evFK (cfg p) (T_ref02_Get x_ref02_Get_L0) (L_ref02_Get x_ref02_Get_L0) 17 [AVal.dat (Dat.sl v_b)] [] γ K = Sp.B_ref02_Get x_ref02_Get_L0 v_b γ (fun r0 r1 r2 => K ([(AVal.dat (Dat.sl r0), Own.none), (AVal.dat (Dat.int IntKind.i64 r1), Own.none), (AVal.dat (Dat.bool r2), Own.none)], [])) := by kernel_rfl
def Sp.ref02_Get : Ty_ref02_Get := Sp.B_ref02_Get (Sp.ref02_Get_L0 fuel)
theorem E_ref02_Get (p : Par) {F : Ent3} (hF : EntOk (cfg p) 17 F) : EntOk (cfg p) 17 (P_ref02_Get Sp.ref02_Get F) := by
  intro a s γ K q h
  unfold P_ref02_Get at h
  split at h
  · exact body_ok (tab_loop (tab_nil _) (E_ref02_Get_L0 p fuel (entL_none _ _ _))) rfl ((e_ref02_Get p _ _ _ _).trans h)
  · exact hF _ _ _ _ _ h
abbrev Ty_ref01_Compare : Type 1 := Int → Int → ByteArray → Int → Int → ByteArray → (γ : Type) → (Int → Option γ) → Option γ
def P_ref01_Compare (X : Ty_ref01_Compare) (F : Ent3) : Ent3 := fun a s γ K => match a, s with
  | [AVal.agg [(Dat.int IntKind.i64 v_a0, Own.none), (Dat.int IntKind.i64 v_a1, Own.none), (Dat.str v_a2, Own.none)], AVal.agg [(Dat.int IntKind.i64 v_b0, Own.none), (Dat.int IntKind.i64 v_b1, Own.none), (Dat.str v_b2, Own.none)]], [] => X v_a0 v_a1 v_a2 v_b0 v_b1 v_b2 γ (fun r0 => K ([(AVal.dat (Dat.int IntKind.i64 r0), Own.none)], []))
  | a, s => F a s γ K
def T_ref01_Compare  : CallK := noneK
def L_ref01_Compare  : LoopK := noneL
def Sp.B_ref01_Compare  (v_a0 : Int) (v_a1 : Int) (v_a2 : ByteArray) (v_b0 : Int) (v_b1 : Int) (v_b2 : ByteArray) (γ : Type) (K : Int → Option γ) : Option γ := bif decide (v_a0 < v_b0) then K (-1) else bif decide (v_a0 = v_b0) then bif decide (v_a1 < v_b1) then K (-1) else bif decide (v_a1 = v_b1) then bif Op.bytesLess (ByteArray.data v_a2).1 (ByteArray.data v_b2).1 then K (-1) else bif decide (v_a0 = v_b0) && (decide (v_a1 = v_b1) && (decide (v_a2 = v_b2) && true)) then K 0 else K 1 else bif decide (v_a0 = v_b0) && (decide (v_a1 = v_b1) && (decide (v_a2 = v_b2) && true)) then K 0 else K 1 else bif decide (v_a0 = v_b0) && (decide (v_a1 = v_b1) && (decide (v_a2 = v_b2) && true)) then K 0 else K 1
theorem e_ref01_Compare (p : Par)  (v_a0 : Int) (v_a1 : Int) (v_a2 : ByteArray) (v_b0 : Int) (v_b1 : Int) (v_b2 : ByteArray) (γ : Type) (K : List Ent × Sig → Option γ) : evFK (cfg p) (T_ref01_Compare ) (L_ref01_Compare ) 43 [AVal.agg [(Dat.int IntKind.i64 v_a0, Own.none), (Dat.int IntKind.i64 v_a1, Own.none), (Dat.str v_a2, Own.none)], AVal.agg [(Dat.int IntKind.i64 v_b0, Own.none), (Dat.int IntKind.i64 v_b1, Own.none), (Dat.str v_b2, Own.none)]] [] γ K = Sp.B_ref01_Compare  v_a0 v_a1 v_a2 v_b0 v_b1 v_b2 γ (fun r0 => K ([(AVal.dat (Dat.int IntKind.i64 r0), Own.none)], [])) := by kernel_rfl
def Sp.ref01_Compare : Ty_ref01_Compare := Sp.B_ref01_Compare 
theorem E_ref01_Compare (p : Par) {F : Ent3} (hF : EntOk (cfg p) 43 F) : EntOk (cfg p) 43 (P_ref01_Compare Sp.ref01_Compare F) := by
  intro a s γ K q h
  unfold P_ref01_Compare at h
  split at h
  · exact body_ok (tab_nil _) rfl ((e_ref01_Compare p  _ _ _ _ _ _ _ _).trans h)
  · exact hF _ _ _ _ _ h
abbrev Ty_ref02_Compare_L0 : Type 1 := List (List Dat) → List (List Dat) → Int → Int → (γ : Type) → (Ex → Int → Int → Option γ) → Option γ
def P_ref02_Compare_L0 (X : Ty_ref02_Compare_L0) (F : Loop3) : Loop3 := fun a s γ K => match a, s with
  | [AVal.dat (Dat.sl v_a), AVal.dat (Dat.sl v_b)], ([AVal.dat (Dat.int IntKind.i64 v_), AVal.dat (Dat.int IntKind.i64 v_i)], []) => X v_a v_b v_ v_i γ (fun e x0 x1 => K (e, ([AVal.dat (Dat.int IntKind.i64 x0), AVal.dat (Dat.int IntKind.i64 x1)], [])))
  | a, s => F a s γ K
def T_ref02_Compare_L0 (x_ref01_Compare : Ty_ref01_Compare) : CallK := (addK noneK 43 (P_ref01_Compare x_ref01_Compare none3))
def L_ref02_Compare_L0 (x_ref01_Compare : Ty_ref01_Compare) : LoopK := noneL
def Sp.B_ref02_Compare_L0 (x_ref02_Compare_L0 : Ty_ref02_Compare_L0) (x_ref01_Compare : Ty_ref01_Compare) (v_a : List (List Dat)) (v_b : List (List Dat)) (v_ : Int) (v_i : Int) (γ : Type) (K : Ex → Int → Int → Option γ) : Option γ := bif decide (v_i < Int.ofNat (List.length v_a)) then bif decide (v_i < Int.ofNat (List.length v_b)) then elemAt v_a v_i fun (z6 : List Dat) => bif List.length z6 == 3 then cellAt z6 0 fun (z7 : Dat) => Aev.asInt IntKind.i64 z7 fun (z8 : Int) => cellAt z6 1 fun (z9 : Dat) => Aev.asInt IntKind.i64 z9 fun (z10 : Int) => cellAt z6 2 fun (z11 : Dat) => asStr z11 fun (z12 : ByteArray) => elemAt v_b v_i fun (z13 : List Dat) => bif List.length z13 == 3 then cellAt z13 0 fun (z14 : Dat) => Aev.asInt IntKind.i64 z14 fun (z15 : Int) => cellAt z13 1 fun (z16 : Dat) => Aev.asInt IntKind.i64 z16 fun (z17 : Int) => cellAt z13 2 fun (z18 : Dat) => asStr z18 fun (z19 : ByteArray) => x_ref01_Compare z8 z10 z12 z15 z17 z19 γ fun (z20 : Int) => bif !decide (z20 = 0) then K Ex.ret z20 v_i else x_ref02_Compare_L0 v_a v_b v_ (IntKind.wrap IntKind.i64 (v_i + 1)) γ K else none else none else K (Ex.exit 0) v_ v_i else K (Ex.exit 0) v_ v_i
theorem e_ref02_Compare_L0 (p : Par) (x_ref02_Compare_L0 : Ty_ref02_Compare_L0) (x_ref01_Compare : Ty_ref01_Compare) (v_a : List (List Dat)) (v_b : List (List Dat)) (v_ : Int) (v_i : Int) (γ : Type) (K : Ex × Vars → Option γ) : roundK (cfg p) (T_ref02_Compare_L0 x_ref01_Compare) (L_ref02_Compare_L0 x_ref01_Compare) 20 0 [AVal.dat (Dat.sl v_a), AVal.dat (Dat.sl v_b)] ([AVal.dat (Dat.int IntKind.i64 v_), AVal.dat (Dat.int IntKind.i64 v_i)], []) γ (contL (fun v => P_ref02_Compare_L0 x_ref02_Compare_L0 noneL3 [AVal.dat (Dat.sl v_a), AVal.dat (Dat.sl v_b)] v γ K) K) = Sp.B_ref02_Compare_L0 x_ref02_Compare_L0 x_ref01_Compare v_a v_b v_ v_i γ (fun e x0 x1 => K (e, ([AVal.dat (Dat.int IntKind.i64 x0), AVal.dat (Dat.int IntKind.i64 x1)], []))) := by kernel_rfl
def Sp.ref02_Compare_L0 : Nat → Ty_ref02_Compare_L0
  | 0 => fun _ _ _ _ _ _ => none
  | n + 1 => Sp.B_ref02_Compare_L0 (Sp.ref02_Compare_L0 n) Sp.ref01_Compare
theorem E0_ref02_Compare_L0 (p : Par)   : ∀ n, EntOkL (cfg p) 20 0 (P_ref02_Compare_L0 (Sp.ref02_Compare_L0  n) noneL3) := entL_rounds (tab_call (tab_nil _) (E_ref01_Compare p (ent_none _ _))) (by kernel_rfl) (fun c v γ K => by unfold P_ref02_Compare_L0; split <;> rfl) fun n c v γ K q h => by
  unfold P_ref02_Compare_L0 at h
  split at h
  · exact (e_ref02_Compare_L0 p _ _ _ _ _ _ _ _).trans h
  · cases h
theorem E_ref02_Compare_L0 (p : Par)   (n : Nat) {F : Loop3} (hF : EntOkL (cfg p) 20 0 F) : EntOkL (cfg p) 20 0 (P_ref02_Compare_L0 (Sp.ref02_Compare_L0  n) F) := by
  intro c v γ K q h
  unfold P_ref02_Compare_L0 at h
  split at h
  · exact E0_ref02_Compare_L0 p   n _ _ _ _ _ h
  · exact hF _ _ _ _ _ h
abbrev Ty_ref02_Compare : Type 1 := List (List Dat) → List (List Dat) → (γ : Type) → (Int → Option γ) → Option γ
def P_ref02_Compare (X : Ty_ref02_Compare) (F : Ent3) : Ent3 := fun a s γ K => match a, s with
  | [AVal.dat (Dat.sl v_a), AVal.dat (Dat.sl v_b)], [] => X v_a v_b γ (fun r0 => K ([(AVal.dat (Dat.int IntKind.i64 r0), Own.none)], []))
  | a, s => F a s γ K
def T_ref02_Compare (x_ref02_Compare_L0 : Ty_ref02_Compare_L0) : CallK := noneK
def L_ref02_Compare (x_ref02_Compare_L0 : Ty_ref02_Compare_L0) : LoopK := (addL noneL 20 0 (P_ref02_Compare_L0 x_ref02_Compare_L0 noneL3))
def Sp.B_ref02_Compare (x_ref02_Compare_L0 : Ty_ref02_Compare_L0) (v_a : List (List Dat)) (v_b : List (List Dat)) (γ : Type) (K : Int → Option γ) : Option γ := x_ref02_Compare_L0 v_a v_b 0 0 γ fun (z4 : Ex) (z5 z6 : Int) => bif Ex.isExit z4 0 then bif decide (Int.ofNat (List.length v_a) < Int.ofNat (List.length v_b)) then K (-1) else bif decide (Int.ofNat (List.length v_b) < Int.ofNat (List.length v_a)) then K 1 else K 0 else bif Ex.isRet z4 then K z5 else none
theorem e_ref02_Compare (p : Par) (x_ref02_Compare_L0 : Ty_ref02_Compare_L0) (v_a : List (List Dat)) (v_b : List (List Dat)) (γ : Type) (K : List Ent × Sig → Option γ) : evFK (cfg p) (T_ref02_Compare x_ref02_Compare_L0) (L_ref02_Compare x_ref02_Compare_L0) 20 [AVal.dat (Dat.sl v_a), AVal.dat (Dat.sl v_b)] [] γ K = Sp.B_ref02_Compare x_ref02_Compare_L0 v_a v_b γ (fun r0 => K ([(AVal.dat (Dat.int IntKind.i64 r0), Own.none)], [])) := by kernel_rfl
def Sp.ref02_Compare : Ty_ref02_Compare := Sp.B_ref02_Compare (Sp.ref02_Compare_L0 fuel)
theorem E_ref02_Compare (p : Par) {F : Ent3} (hF : EntOk (cfg p) 20 F) : EntOk (cfg p) 20 (P_ref02_Compare Sp.ref02_Compare F) := by
  intro a s γ K q h
  unfold P_ref02_Compare at h
  split at h
  · exact body_ok (tab_loop (tab_nil _) (E_ref02_Compare_L0 p fuel (entL_none _ _ _))) rfl ((e_ref02_Compare p _ _ _ _ _).trans h)
  · exact hF _ _ _ _ _ h
abbrev Ty_ref02_Same : Type 1 := List (List Dat) → List (List Dat) → (γ : Type) → (Bool → Option γ) → Option γ
def P_ref02_Same (X : Ty_ref02_Same) (F : Ent3) : Ent3 := fun a s γ K => match a, s with
  | [AVal.dat (Dat.sl v_a), AVal.dat (Dat.sl v_b)], [] => X v_a v_b γ (fun r0 => K ([(AVal.dat (Dat.bool r0), Own.none)], []))
  | a, s => F a s γ K
def T_ref02_Same (x_ref02_Compare : Ty_ref02_Compare) : CallK := (addK noneK 20 (P_ref02_Compare x_ref02_Compare none3))
def L_ref02_Same (x_ref02_Compare : Ty_ref02_Compare) : LoopK := noneL
def Sp.B_ref02_Same (x_ref02_Compare : Ty_ref02_Compare) (v_a : List (List Dat)) (v_b : List (List Dat)) (γ : Type) (K : Bool → Option γ) : Option γ := x_ref02_Compare v_a v_b γ fun (z4 : Int) => K (decide (z4 = 0))
theorem e_ref02_Same (p : Par) (x_ref02_Compare : Ty_ref02_Compare) (v_a : List (List Dat)) (v_b : List (List Dat)) (γ : Type) (K : List Ent × Sig → Option γ) : evFK (cfg p) (T_ref02_Same x_ref02_Compare) (L_ref02_Same x_ref02_Compare) 18 [AVal.dat (Dat.sl v_a), AVal.dat (Dat.sl v_b)] [] γ K = Sp.B_ref02_Same x_ref02_Compare v_a v_b γ (fun r0 => K ([(AVal.dat (Dat.bool r0), Own.none)], [])) := by kernel_rfl
def Sp.ref02_Same : Ty_ref02_Same := Sp.B_ref02_Same Sp.ref02_Compare
theorem E_ref02_Same (p : Par) {F : Ent3} (hF : EntOk (cfg p) 18 F) : EntOk (cfg p) 18 (P_ref02_Same Sp.ref02_Same F) := by
  intro a s γ K q h
  unfold P_ref02_Same at h
  split at h
  · exact body_ok (tab_call (tab_nil _) (E_ref02_Compare p (ent_none _ _))) rfl ((e_ref02_Same p _ _ _ _ _).trans h)
  · exact hF _ _ _ _ _ h
abbrev Ty_law02_RowGets : Type 1 := List (List Dat) → (γ : Type) → (Bool → Option γ) → Option γ
def P_law02_RowGets (X : Ty_law02_RowGets) (F : Ent3) : Ent3 := fun a s γ K => match a, s with
  | [AVal.dat (Dat.sl v_b)], [] => X v_b γ (fun r0 => K ([(AVal.dat (Dat.bool r0), Own.none)], []))
  | a, s => F a s γ K
def T_law02_RowGets (x_law02_lives : Ty_law02_lives) (x_row_Get : Ty_row_Get) (x_ref02_Get : Ty_ref02_Get) (x_ref02_Same : Ty_ref02_Same) (x_row_Put : Ty_row_Put) : CallK := (addK (addK (addK (addK (addK noneK 9 (P_law02_lives x_law02_lives none3)) 14 (P_row_Get x_row_Get none3)) 17 (P_ref02_Get x_ref02_Get none3)) 18 (P_ref02_Same x_ref02_Same none3)) 10 (P_row_Put x_row_Put none3))
def L_law02_RowGets (x_law02_lives : Ty_law02_lives) (x_row_Get : Ty_row_Get) (x_ref02_Get : Ty_ref02_Get) (x_ref02_Same : Ty_ref02_Same) (x_row_Put : Ty_row_Put) : LoopK := noneL
def Sp.B_law02_RowGets (x_law02_lives : Ty_law02_lives) (x_row_Get : Ty_row_Get) (x_ref02_Get : Ty_ref02_Get) (x_ref02_Same : Ty_ref02_Same) (x_row_Put : Ty_row_Put) (v_b : List (List Dat)) (γ : Type) (K : Bool → Option γ) : Option γ := bif decide (5000 < Int.ofNat (List.length v_b)) then x_law02_lives γ fun (z3 : Bool) => K z3
  else
    x_row_Get v_b γ fun (z4 : List (List Dat)) (z5 z6 : Int) =>
      x_ref02_Get v_b γ fun (z7 : List (List Dat)) (z8 : Int) (z9 : Bool) =>
        x_law02_lives γ fun (z10 : Bool) =>
          bif !z10 then K false
          else
            bif !decide (z5 = z8) then K false
            else
              x_ref02_Same z4 z7 γ fun (z11 : Bool) =>
                bif !z11 then K false
                else
                  bif !decide (z6 = 0) == z9 then K false
                  else
                    bif !z9 then
                      bif !decide (z6 = 20) then K false
                      else
                        bif !z9 then K true
                        else
                          x_row_Put z4 γ fun (z12 : List (List Dat)) (z13 : Int) =>
                            bif decide (z13 = 0) then
                              match esBytes z12 with
                              | some z15 =>
                                bif decide (0 ≤ z5) && decide (z5 ≤ Int.ofNat (List.length v_b)) && true && true then
                                  match esBytes (List.drop 0 (List.take (Int.toNat z5) v_b)) with
                                  | some z17 => K (decide (ByteArray.mk (Array.mk z15) = ByteArray.mk (Array.mk z17)))
                                  | none => none
                                else none
                              | none => none
                            else K false
                    else
                      bif !z9 then K true
                      else
                        x_row_Put z4 γ fun (z20 : List (List Dat)) (z21 : Int) =>
                          bif decide (z21 = 0) then
                            match esBytes z20 with
                            | some z23 =>
                              bif decide (0 ≤ z5) && decide (z5 ≤ Int.ofNat (List.length v_b)) && true && true then
                                match esBytes (List.drop 0 (List.take (Int.toNat z5) v_b)) with
                                | some z25 => K (decide (ByteArray.mk (Array.mk z23) = ByteArray.mk (Array.mk z25)))
                                | none => none
                              else none
                            | none => none
                          else K false
theorem e_law02_RowGets (p : Par) (x_law02_lives : Ty_law02_lives) (x_row_Get : Ty_row_Get) (x_ref02_Get : Ty_ref02_Get) (x_ref02_Same : Ty_ref02_Same) (x_row_Put : Ty_row_Put) (v_b : List (List Dat)) (γ : Type) (K : List Ent × Sig → Option γ) : evFK (cfg p) (T_law02_RowGets x_law02_lives x_row_Get x_ref02_Get x_ref02_Same x_row_Put) (L_law02_RowGets x_law02_lives x_row_Get x_ref02_Get x_ref02_Same x_row_Put) 4 [AVal.dat (Dat.sl v_b)] [] γ K = Sp.B_law02_RowGets x_law02_lives x_row_Get x_ref02_Get x_ref02_Same x_row_Put v_b γ (fun r0 => K ([(AVal.dat (Dat.bool r0), Own.none)], [])) := by kernel_rfl
def Sp.law02_RowGets : Ty_law02_RowGets := Sp.B_law02_RowGets Sp.law02_lives Sp.row_Get Sp.ref02_Get Sp.ref02_Same Sp.row_Put
theorem E_law02_RowGets (p : Par) {F : Ent3} (hF : EntOk (cfg p) 4 F) : EntOk (cfg p) 4 (P_law02_RowGets Sp.law02_RowGets F) := by
  intro a s γ K q h
  unfold P_law02_RowGets at h
  split at h
  · exact body_ok (tab_call (tab_call (tab_call (tab_call (tab_call (tab_nil _) (E_law02_lives p (ent_none _ _))) (E_row_Get p (ent_none _ _))) (E_ref02_Get p (ent_none _ _))) (E_ref02_Same p (ent_none _ _))) (E_row_Put p (ent_none _ _))) rfl ((e_law02_RowGets p _ _ _ _ _ _ _ _).trans h)
  · exact hF _ _ _ _ _ h
abbrev Ty_slices_CompareFunc_api_Value_api_Value_api_Value_api_Value_L0 : Type 1 := List (List Dat) → List (List Dat) → List (List Dat) → Int → Int → Int → (γ : Type) → (Ex → Int → Int → Option γ) → Option γ
def P_slices_CompareFunc_api_Value_api_Value_api_Value_api_Value_L0 (X : Ty_slices_CompareFunc_api_Value_api_Value_api_Value_api_Value_L0) (F : Loop3) : Loop3 := fun a s γ K => match a, s with
  | [AVal.dat (Dat.sl v_s1), AVal.dat (Dat.sl v_s2), AVal.clo (Fn.func 42) [] [], AVal.dat (Dat.sl v_), AVal.dat (Dat.int IntKind.i64 v__1)], ([AVal.dat (Dat.int IntKind.i64 v__2), AVal.dat (Dat.int IntKind.i64 v__3)], []) => X v_s1 v_s2 v_ v__1 v__2 v__3 γ (fun e x0 x1 => K (e, ([AVal.dat (Dat.int IntKind.i64 x0), AVal.dat (Dat.int IntKind.i64 x1)], [])))
  | a, s => F a s γ K
def T_slices_CompareFunc_api_Value_api_Value_api_Value_api_Value_L0 (x_value_Compare : Ty_value_Compare) : CallK := (addK noneK 42 (P_value_Compare x_value_Compare none3))
def L_slices_CompareFunc_api_Value_api_Value_api_Value_api_Value_L0 (x_value_Compare : Ty_value_Compare) : LoopK := noneL
def Sp.B_slices_CompareFunc_api_Value_api_Value_api_Value_api_Value_L0 (x_slices_CompareFunc_api_Value_api_Value_api_Value_api_Value_L0 : Ty_slices_CompareFunc_api_Value_api_Value_api_Value_api_Value_L0) (x_value_Compare : Ty_value_Compare) (v_s1 : List (List Dat)) (v_s2 : List (List Dat)) (v_ : List (List Dat)) (v__1 : Int) (v__2 : Int) (v__3 : Int) (γ : Type) (K : Ex → Int → Int → Option γ) : Option γ := bif decide (v__3 < v__1) then elemAt v_ v__3 fun (z8 : List Dat) => bif List.length z8 == 3 then cellAt z8 0 fun (z9 : Dat) => Aev.asInt IntKind.i64 z9 fun (z10 : Int) => cellAt z8 1 fun (z11 : Dat) => Aev.asInt IntKind.i64 z11 fun (z12 : Int) => cellAt z8 2 fun (z13 : Dat) => asStr z13 fun (z14 : ByteArray) => bif decide (Int.ofNat (List.length v_s2) ≤ v__3) then K Ex.ret 1 v__3 else elemAt v_s2 v__3 fun (z15 : List Dat) => bif List.length z15 == 3 then cellAt z15 0 fun (z16 : Dat) => Aev.asInt IntKind.i64 z16 fun (z17 : Int) => cellAt z15 1 fun (z18 : Dat) => Aev.asInt IntKind.i64 z18 fun (z19 : Int) => cellAt z15 2 fun (z20 : Dat) => asStr z20 fun (z21 : ByteArray) => x_value_Compare z10 z12 z14 z17 z19 z21 γ fun (z22 : Int) => bif !decide (z22 = 0) then K Ex.ret z22 v__3 else x_slices_CompareFunc_api_Value_api_Value_api_Value_api_Value_L0 v_s1 v_s2 v_ v__1 v__2 (IntKind.wrap IntKind.i64 (v__3 + 1)) γ K else none else none else K (Ex.exit 0) v__2 v__3
theorem e_slices_CompareFunc_api_Value_api_Value_api_Value_api_Value_L0 (p : Par) (x_slices_CompareFunc_api_Value_api_Value_api_Value_api_Value_L0 : Ty_slices_CompareFunc_api_Value_api_Value_api_Value_api_Value_L0) (x_value_Compare : Ty_value_Compare) (v_s1 : List (List Dat)) (v_s2 : List (List Dat)) (v_ : List (List Dat)) (v__1 : Int) (v__2 : Int) (v__3 : Int) (γ : Type) (K : Ex × Vars → Option γ) : roundK (cfg p) (T_slices_CompareFunc_api_Value_api_Value_api_Value_api_Value_L0 x_value_Compare) (L_slices_CompareFunc_api_Value_api_Value_api_Value_api_Value_L0 x_value_Compare) 41 0 [AVal.dat (Dat.sl v_s1), AVal.dat (Dat.sl v_s2), AVal.clo (Fn.func 42) [] [], AVal.dat (Dat.sl v_), AVal.dat (Dat.int IntKind.i64 v__1)] ([AVal.dat (Dat.int IntKind.i64 v__2), AVal.dat (Dat.int IntKind.i64 v__3)], []) γ (contL (fun v => P_slices_CompareFunc_api_Value_api_Value_api_Value_api_Value_L0 x_slices_CompareFunc_api_Value_api_Value_api_Value_api_Value_L0 noneL3 [AVal.dat (Dat.sl v_s1), AVal.dat (Dat.sl v_s2), AVal.clo (Fn.func 42) [] [], AVal.dat (Dat.sl v_), AVal.dat (Dat.int IntKind.i64 v__1)] v γ K) K) = Sp.B_slices_CompareFunc_api_Value_api_Value_api_Value_api_Value_L0 x_slices_CompareFunc_api_Value_api_Value_api_Value_api_Value_L0 x_value_Compare v_s1 v_s2 v_ v__1 v__2 v__3 γ (fun e x0 x1 => K (e, ([AVal.dat (Dat.int IntKind.i64 x0), AVal.dat (Dat.int IntKind.i64 x1)], []))) := by kernel_rfl
def Sp.slices_CompareFunc_api_Value_api_Value_api_Value_api_Value_L0 : Nat → Ty_slices_CompareFunc_api_Value_api_Value_api_Value_api_Value_L0
  | 0 => fun _ _ _ _ _ _ _ _ => none
  | n + 1 => Sp.B_slices_CompareFunc_api_Value_api_Value_api_Value_api_Value_L0 (Sp.slices_CompareFunc_api_Value_api_Value_api_Value_api_Value_L0 n) Sp.value_Compare
theorem E0_slices_CompareFunc_api_Value_api_Value_api_Value_api_Value_L0 (p : Par)   : ∀ n, EntOkL (cfg p) 41 0 (P_slices_CompareFunc_api_Value_api_Value_api_Value_api_Value_L0 (Sp.slices_CompareFunc_api_Value_api_Value_api_Value_api_Value_L0  n) noneL3) := entL_rounds (tab_call (tab_nil _) (E_value_Compare p (ent_none _ _))) (by kernel_rfl) (fun c v γ K => by unfold P_slices_CompareFunc_api_Value_api_Value_api_Value_api_Value_L0; split <;> rfl) fun n c v γ K q h => by
  unfold P_slices_CompareFunc_api_Value_api_Value_api_Value_api_Value_L0 at h
  split at h
  · exact (e_slices_CompareFunc_api_Value_api_Value_api_Value_api_Value_L0 p _ _ _ _ _ _ _ _ _ _).trans h
  · cases h
theorem E_slices_CompareFunc_api_Value_api_Value_api_Value_api_Value_L0 (p : Par)   (n : Nat) {F : Loop3} (hF : EntOkL (cfg p) 41 0 F) : EntOkL (cfg p) 41 0 (P_slices_CompareFunc_api_Value_api_Value_api_Value_api_Value_L0 (Sp.slices_CompareFunc_api_Value_api_Value_api_Value_api_Value_L0  n) F) := by
  intro c v γ K q h
  unfold P_slices_CompareFunc_api_Value_api_Value_api_Value_api_Value_L0 at h
  split at h
  · exact E0_slices_CompareFunc_api_Value_api_Value_api_Value_api_Value_L0 p   n _ _ _ _ _ h
  · exact hF _ _ _ _ _ h
abbrev Ty_slices_CompareFunc_api_Value_api_Value_api_Value_api_Value : Type 1 := List (List Dat) → List (List Dat) → (γ : Type) → (Int → Option γ) → Option γ
def P_slices_CompareFunc_api_Value_api_Value_api_Value_api_Value (X : Ty_slices_CompareFunc_api_Value_api_Value_api_Value_api_Value) (F : Ent3) : Ent3 := fun a s γ K => match a, s with
  | [AVal.dat (Dat.sl v_s1), AVal.dat (Dat.sl v_s2), AVal.clo (Fn.func 42) [] []], [] => X v_s1 v_s2 γ (fun r0 => K ([(AVal.dat (Dat.int IntKind.i64 r0), Own.none)], []))
  | a, s => F a s γ K
def T_slices_CompareFunc_api_Value_api_Value_api_Value_api_Value (x_slices_CompareFunc_api_Value_api_Value_api_Value_api_Value_L0 : Ty_slices_CompareFunc_api_Value_api_Value_api_Value_api_Value_L0) : CallK := noneK
def L_slices_CompareFunc_api_Value_api_Value_api_Value_api_Value (x_slices_CompareFunc_api_Value_api_Value_api_Value_api_Value_L0 : Ty_slices_CompareFunc_api_Value_api_Value_api_Value_api_Value_L0) : LoopK := (addL noneL 41 0 (P_slices_CompareFunc_api_Value_api_Value_api_Value_api_Value_L0 x_slices_CompareFunc_api_Value_api_Value_api_Value_api_Value_L0 noneL3))
def Sp.B_slices_CompareFunc_api_Value_api_Value_api_Value_api_Value (x_slices_CompareFunc_api_Value_api_Value_api_Value_api_Value_L0 : Ty_slices_CompareFunc_api_Value_api_Value_api_Value_api_Value_L0) (v_s1 : List (List Dat)) (v_s2 : List (List Dat)) (γ : Type) (K : Int → Option γ) : Option γ := x_slices_CompareFunc_api_Value_api_Value_api_Value_api_Value_L0 v_s1 v_s2 v_s1 (Int.ofNat (List.length v_s1)) 0 0 γ fun (z4 : Ex) (z5 z6 : Int) => bif Ex.isExit z4 0 then bif decide (Int.ofNat (List.length v_s1) < Int.ofNat (List.length v_s2)) then K (-1) else K 0 else bif Ex.isRet z4 then K z5 else none
theorem e_slices_CompareFunc_api_Value_api_Value_api_Value_api_Value (p : Par) (x_slices_CompareFunc_api_Value_api_Value_api_Value_api_Value_L0 : Ty_slices_CompareFunc_api_Value_api_Value_api_Value_api_Value_L0) (v_s1 : List (List Dat)) (v_s2 : List (List Dat)) (γ : Type) (K : List Ent × Sig → Option γ) : evFK (cfg p) (T_slices_CompareFunc_api_Value_api_Value_api_Value_api_Value x_slices_CompareFunc_api_Value_api_Value_api_Value_api_Value_L0) (L_slices_CompareFunc_api_Value_api_Value_api_Value_api_Value x_slices_CompareFunc_api_Value_api_Value_api_Value_api_Value_L0) 41 [AVal.dat (Dat.sl v_s1), AVal.dat (Dat.sl v_s2), AVal.clo (Fn.func 42) [] []] [] γ K = Sp.B_slices_CompareFunc_api_Value_api_Value_api_Value_api_Value x_slices_CompareFunc_api_Value_api_Value_api_Value_api_Value_L0 v_s1 v_s2 γ (fun r0 => K ([(AVal.dat (Dat.int IntKind.i64 r0), Own.none)], [])) := by kernel_rfl
def Sp.slices_CompareFunc_api_Value_api_Value_api_Value_api_Value : Ty_slices_CompareFunc_api_Value_api_Value_api_Value_api_Value := Sp.B_slices_CompareFunc_api_Value_api_Value_api_Value_api_Value (Sp.slices_CompareFunc_api_Value_api_Value_api_Value_api_Value_L0 fuel)
theorem E_slices_CompareFunc_api_Value_api_Value_api_Value_api_Value (p : Par) {F : Ent3} (hF : EntOk (cfg p) 41 F) : EntOk (cfg p) 41 (P_slices_CompareFunc_api_Value_api_Value_api_Value_api_Value Sp.slices_CompareFunc_api_Value_api_Value_api_Value_api_Value F) := by
  intro a s γ K q h
  unfold P_slices_CompareFunc_api_Value_api_Value_api_Value_api_Value at h
  split at h
  · exact body_ok (tab_loop (tab_nil _) (E_slices_CompareFunc_api_Value_api_Value_api_Value_api_Value_L0 p fuel (entL_none _ _ _))) rfl ((e_slices_CompareFunc_api_Value_api_Value_api_Value_api_Value p _ _ _ _ _).trans h)
  · exact hF _ _ _ _ _ h
abbrev Ty_row_Compare : Type 1 := List (List Dat) → List (List Dat) → (γ : Type) → (Int → Option γ) → Option γ
def P_row_Compare (X : Ty_row_Compare) (F : Ent3) : Ent3 := fun a s γ K => match a, s with
  | [AVal.dat (Dat.sl v_a), AVal.dat (Dat.sl v_b)], [] => X v_a v_b γ (fun r0 => K ([(AVal.dat (Dat.int IntKind.i64 r0), Own.none)], []))
  | a, s => F a s γ K
def T_row_Compare (x_slices_CompareFunc_api_Value_api_Value_api_Value_api_Value : Ty_slices_CompareFunc_api_Value_api_Value_api_Value_api_Value) : CallK := (addK noneK 41 (P_slices_CompareFunc_api_Value_api_Value_api_Value_api_Value x_slices_CompareFunc_api_Value_api_Value_api_Value_api_Value none3))
def L_row_Compare (x_slices_CompareFunc_api_Value_api_Value_api_Value_api_Value : Ty_slices_CompareFunc_api_Value_api_Value_api_Value_api_Value) : LoopK := noneL
def Sp.B_row_Compare (x_slices_CompareFunc_api_Value_api_Value_api_Value_api_Value : Ty_slices_CompareFunc_api_Value_api_Value_api_Value_api_Value) (v_a : List (List Dat)) (v_b : List (List Dat)) (γ : Type) (K : Int → Option γ) : Option γ := x_slices_CompareFunc_api_Value_api_Value_api_Value_api_Value v_a v_b γ fun (z4 : Int) => K z4
theorem e_row_Compare (p : Par) (x_slices_CompareFunc_api_Value_api_Value_api_Value_api_Value : Ty_slices_CompareFunc_api_Value_api_Value_api_Value_api_Value) (v_a : List (List Dat)) (v_b : List (List Dat)) (γ : Type) (K : List Ent × Sig → Option γ) : evFK (cfg p) (T_row_Compare x_slices_CompareFunc_api_Value_api_Value_api_Value_api_Value) (L_row_Compare x_slices_CompareFunc_api_Value_api_Value_api_Value_api_Value) 19 [AVal.dat (Dat.sl v_a), AVal.dat (Dat.sl v_b)] [] γ K = Sp.B_row_Compare x_slices_CompareFunc_api_Value_api_Value_api_Value_api_Value v_a v_b γ (fun r0 => K ([(AVal.dat (Dat.int IntKind.i64 r0), Own.none)], [])) := by kernel_rfl
def Sp.row_Compare : Ty_row_Compare := Sp.B_row_Compare Sp.slices_CompareFunc_api_Value_api_Value_api_Value_api_Value
theorem E_row_Compare (p : Par) {F : Ent3} (hF : EntOk (cfg p) 19 F) : EntOk (cfg p) 19 (P_row_Compare Sp.row_Compare F) := by
  intro a s γ K q h
  unfold P_row_Compare at h
  split at h
  · exact body_ok (tab_call (tab_nil _) (E_slices_CompareFunc_api_Value_api_Value_api_Value_api_Value p (ent_none _ _))) rfl ((e_row_Compare p _ _ _ _ _).trans h)
  · exact hF _ _ _ _ _ h
abbrev Ty_ref02_at : Type 1 := List (List Dat) → Int → (γ : Type) → (Int → Int → ByteArray → Option γ) → Option γ
def P_ref02_at (X : Ty_ref02_at) (F : Ent3) : Ent3 := fun a s γ K => match a, s with
  | [AVal.dat (Dat.sl v_r), AVal.dat (Dat.int IntKind.i64 v_i)], [] => X v_r v_i γ (fun r0 r1 r2 => K ([(AVal.agg [(Dat.int IntKind.i64 r0, Own.none), (Dat.int IntKind.i64 r1, Own.none), (Dat.str r2, Own.none)], Own.none)], []))
  | a, s => F a s γ K
def T_ref02_at  : CallK := noneK
def L_ref02_at  : LoopK := noneL
def Sp.B_ref02_at  (v_r : List (List Dat)) (v_i : Int) (γ : Type) (K : Int → Int → ByteArray → Option γ) : Option γ := bif decide (v_i < 0) then K 0 0 (bs []) else bif decide (Int.ofNat (List.length v_r) ≤ v_i) then K 0 0 (bs []) else elemAt v_r v_i fun (z4 : List Dat) => bif List.length z4 == 3 then cellAt z4 0 fun (z5 : Dat) => Aev.asInt IntKind.i64 z5 fun (z6 : Int) => cellAt z4 1 fun (z7 : Dat) => Aev.asInt IntKind.i64 z7 fun (z8 : Int) => cellAt z4 2 fun (z9 : Dat) => asStr z9 fun (z10 : ByteArray) => K z6 z8 z10 else none
theorem e_ref02_at (p : Par)  (v_r : List (List Dat)) (v_i : Int) (γ : Type) (K : List Ent × Sig → Option γ) : evFK (cfg p) (T_ref02_at ) (L_ref02_at ) 46 [AVal.dat (Dat.sl v_r), AVal.dat (Dat.int IntKind.i64 v_i)] [] γ K = Sp.B_ref02_at  v_r v_i γ (fun r0 r1 r2 => K ([(AVal.agg [(Dat.int IntKind.i64 r0, Own.none), (Dat.int IntKind.i64 r1, Own.none), (Dat.str r2, Own.none)], Own.none)], [])) := by kernel_rfl
def Sp.ref02_at : Ty_ref02_at := Sp.B_ref02_at 
theorem E_ref02_at (p : Par) {F : Ent3} (hF : EntOk (cfg p) 46 F) : EntOk (cfg p) 46 (P_ref02_at Sp.ref02_at F) := by
  intro a s γ K q h
  unfold P_ref02_at at h
  split at h
  · exact body_ok (tab_nil _) rfl ((e_ref02_at p  _ _ _ _).trans h)
  · exact hF _ _ _ _ _ h
abbrev Ty_ref02_By_L0 : Type 1 := List (List Dat) → List (List Dat) → List (List Dat) → List (List Dat) → Int → Int → (γ : Type) → (Ex → Int → Int → Option γ) → Option γ
def P_ref02_By_L0 (X : Ty_ref02_By_L0) (F : Loop3) : Loop3 := fun a s γ K => match a, s with
  | [AVal.dat (Dat.sl v_a), AVal.dat (Dat.sl v_b), AVal.dat (Dat.sl v_cols), AVal.dat (Dat.sl v_down)], ([AVal.dat (Dat.int IntKind.i64 v_), AVal.dat (Dat.int IntKind.i64 v_i)], []) => X v_a v_b v_cols v_down v_ v_i γ (fun e x0 x1 => K (e, ([AVal.dat (Dat.int IntKind.i64 x0), AVal.dat (Dat.int IntKind.i64 x1)], [])))
  | a, s => F a s γ K
def T_ref02_By_L0 (x_ref02_at : Ty_ref02_at) (x_ref01_Compare : Ty_ref01_Compare) : CallK := (addK (addK noneK 46 (P_ref02_at x_ref02_at none3)) 43 (P_ref01_Compare x_ref01_Compare none3))
def L_ref02_By_L0 (x_ref02_at : Ty_ref02_at) (x_ref01_Compare : Ty_ref01_Compare) : LoopK := noneL
def Sp.B_ref02_By_L0 (x_ref02_By_L0 : Ty_ref02_By_L0) (x_ref02_at : Ty_ref02_at) (x_ref01_Compare : Ty_ref01_Compare) (v_a : List (List Dat)) (v_b : List (List Dat)) (v_cols : List (List Dat)) (v_down : List (List Dat)) (v_ : Int) (v_i : Int) (γ : Type) (K : Ex → Int → Int → Option γ) : Option γ := bif decide (v_i < Int.ofNat (List.length v_cols)) then elemAt v_cols v_i fun (z8 : List Dat) => bif List.length z8 == 1 then cellAt z8 0 fun (z9 : Dat) => Aev.asInt IntKind.i64 z9 fun (z10 : Int) => x_ref02_at v_a z10 γ fun (z11 z12 : Int) (z13 : ByteArray) => elemAt v_cols v_i fun (z14 : List Dat) => bif List.length z14 == 1 then cellAt z14 0 fun (z15 : Dat) => Aev.asInt IntKind.i64 z15 fun (z16 : Int) => x_ref02_at v_b z16 γ fun (z17 z18 : Int) (z19 : ByteArray) => x_ref01_Compare z11 z12 z13 z17 z18 z19 γ fun (z20 : Int) => bif decide (z20 = 0) then x_ref02_By_L0 v_a v_b v_cols v_down v_ (IntKind.wrap IntKind.i64 (v_i + 1)) γ K else bif decide (v_i < Int.ofNat (List.length v_down)) then elemAt v_down v_i fun (z21 : List Dat) => bif List.length z21 == 1 then cellAt z21 0 fun (z22 : Dat) => Aev.asBool z22 fun (z23 : Bool) => bif z23 then K Ex.ret (IntKind.wrap IntKind.i64 (0 - z20)) v_i else K Ex.ret z20 v_i else none else K Ex.ret z20 v_i else none else none else K (Ex.exit 0) v_ v_i
theorem e_ref02_By_L0 (p : Par) (x_ref02_By_L0 : Ty_ref02_By_L0) (x_ref02_at : Ty_ref02_at) (x_ref01_Compare : Ty_ref01_Compare) (v_a : List (List Dat)) (v_b : List (List Dat)) (v_cols : List (List Dat)) (v_down : List (List Dat)) (v_ : Int) (v_i : Int) (γ : Type) (K : Ex × Vars → Option γ) : roundK (cfg p) (T_ref02_By_L0 x_ref02_at x_ref01_Compare) (L_ref02_By_L0 x_ref02_at x_ref01_Compare) 22 0 [AVal.dat (Dat.sl v_a), AVal.dat (Dat.sl v_b), AVal.dat (Dat.sl v_cols), AVal.dat (Dat.sl v_down)] ([AVal.dat (Dat.int IntKind.i64 v_), AVal.dat (Dat.int IntKind.i64 v_i)], []) γ (contL (fun v => P_ref02_By_L0 x_ref02_By_L0 noneL3 [AVal.dat (Dat.sl v_a), AVal.dat (Dat.sl v_b), AVal.dat (Dat.sl v_cols), AVal.dat (Dat.sl v_down)] v γ K) K) = Sp.B_ref02_By_L0 x_ref02_By_L0 x_ref02_at x_ref01_Compare v_a v_b v_cols v_down v_ v_i γ (fun e x0 x1 => K (e, ([AVal.dat (Dat.int IntKind.i64 x0), AVal.dat (Dat.int IntKind.i64 x1)], []))) := by kernel_rfl
def Sp.ref02_By_L0 : Nat → Ty_ref02_By_L0
  | 0 => fun _ _ _ _ _ _ _ _ => none
  | n + 1 => Sp.B_ref02_By_L0 (Sp.ref02_By_L0 n) Sp.ref02_at Sp.ref01_Compare
theorem E0_ref02_By_L0 (p : Par)   : ∀ n, EntOkL (cfg p) 22 0 (P_ref02_By_L0 (Sp.ref02_By_L0  n) noneL3) := entL_rounds (tab_call (tab_call (tab_nil _) (E_ref02_at p (ent_none _ _))) (E_ref01_Compare p (ent_none _ _))) (by kernel_rfl) (fun c v γ K => by unfold P_ref02_By_L0; split <;> rfl) fun n c v γ K q h => by
  unfold P_ref02_By_L0 at h
  split at h
  · exact (e_ref02_By_L0 p _ _ _ _ _ _ _ _ _ _ _).trans h
  · cases h
theorem E_ref02_By_L0 (p : Par)   (n : Nat) {F : Loop3} (hF : EntOkL (cfg p) 22 0 F) : EntOkL (cfg p) 22 0 (P_ref02_By_L0 (Sp.ref02_By_L0  n) F) := by
  intro c v γ K q h
  unfold P_ref02_By_L0 at h
  split at h
  · exact E0_ref02_By_L0 p   n _ _ _ _ _ h
  · exact hF _ _ _ _ _ h
abbrev Ty_ref02_By : Type 1 := List (List Dat) → List (List Dat) → List (List Dat) → List (List Dat) → (γ : Type) → (Int → Option γ) → Option γ
def P_ref02_By (X : Ty_ref02_By) (F : Ent3) : Ent3 := fun a s γ K => match a, s with
  | [AVal.dat (Dat.sl v_a), AVal.dat (Dat.sl v_b), AVal.dat (Dat.sl v_cols), AVal.dat (Dat.sl v_down)], [] => X v_a v_b v_cols v_down γ (fun r0 => K ([(AVal.dat (Dat.int IntKind.i64 r0), Own.none)], []))
  | a, s => F a s γ K
def T_ref02_By (x_ref02_By_L0 : Ty_ref02_By_L0) : CallK := noneK
def L_ref02_By (x_ref02_By_L0 : Ty_ref02_By_L0) : LoopK := (addL noneL 22 0 (P_ref02_By_L0 x_ref02_By_L0 noneL3))
def Sp.B_ref02_By (x_ref02_By_L0 : Ty_ref02_By_L0) (v_a : List (List Dat)) (v_b : List (List Dat)) (v_cols : List (List Dat)) (v_down : List (List Dat)) (γ : Type) (K : Int → Option γ) : Option γ := x_ref02_By_L0 v_a v_b v_cols v_down 0 0 γ fun (z6 : Ex) (z7 z8 : Int) => bif Ex.isExit z6 0 then K 0 else bif Ex.isRet z6 then K z7 else none
theorem e_ref02_By (p : Par) (x_ref02_By_L0 : Ty_ref02_By_L0) (v_a : List (List Dat)) (v_b : List (List Dat)) (v_cols : List (List Dat)) (v_down : List (List Dat)) (γ : Type) (K : List Ent × Sig → Option γ) : evFK (cfg p) (T_ref02_By x_ref02_By_L0) (L_ref02_By x_ref02_By_L0) 22 [AVal.dat (Dat.sl v_a), AVal.dat (Dat.sl v_b), AVal.dat (Dat.sl v_cols), AVal.dat (Dat.sl v_down)] [] γ K = Sp.B_ref02_By x_ref02_By_L0 v_a v_b v_cols v_down γ (fun r0 => K ([(AVal.dat (Dat.int IntKind.i64 r0), Own.none)], [])) := by kernel_rfl
def Sp.ref02_By : Ty_ref02_By := Sp.B_ref02_By (Sp.ref02_By_L0 fuel)
theorem E_ref02_By (p : Par) {F : Ent3} (hF : EntOk (cfg p) 22 F) : EntOk (cfg p) 22 (P_ref02_By Sp.ref02_By F) := by
  intro a s γ K q h
  unfold P_ref02_By at h
  split at h
  · exact body_ok (tab_loop (tab_nil _) (E_ref02_By_L0 p fuel (entL_none _ _ _))) rfl ((e_ref02_By p _ _ _ _ _ _ _).trans h)
  · exact hF _ _ _ _ _ h
abbrev Ty_law02_RowOrders : Type 1 := List (List Dat) → List (List Dat) → List (List Dat) → List (List Dat) → (γ : Type) → (Bool → Option γ) → Option γ
def P_law02_RowOrders (X : Ty_law02_RowOrders) (F : Ent3) : Ent3 := fun a s γ K => match a, s with
  | [AVal.dat (Dat.sl v_a), AVal.dat (Dat.sl v_b), AVal.dat (Dat.sl v_cols), AVal.dat (Dat.sl v_down)], [] => X v_a v_b v_cols v_down γ (fun r0 => K ([(AVal.dat (Dat.bool r0), Own.none)], []))
  | a, s => F a s γ K
def T_law02_RowOrders (x_law02_large : Ty_law02_large) (x_law02_lives : Ty_law02_lives) (x_row_Compare : Ty_row_Compare) (x_ref02_Compare : Ty_ref02_Compare) (x_row_Same : Ty_row_Same) (x_row_By : Ty_row_By) (x_ref02_By : Ty_ref02_By) : CallK := (addK (addK (addK (addK (addK (addK (addK noneK 8 (P_law02_large x_law02_large none3)) 9 (P_law02_lives x_law02_lives none3)) 19 (P_row_Compare x_row_Compare none3)) 20 (P_ref02_Compare x_ref02_Compare none3)) 16 (P_row_Same x_row_Same none3)) 21 (P_row_By x_row_By none3)) 22 (P_ref02_By x_ref02_By none3))
def L_law02_RowOrders (x_law02_large : Ty_law02_large) (x_law02_lives : Ty_law02_lives) (x_row_Compare : Ty_row_Compare) (x_ref02_Compare : Ty_ref02_Compare) (x_row_Same : Ty_row_Same) (x_row_By : Ty_row_By) (x_ref02_By : Ty_ref02_By) : LoopK := noneL
def Sp.B_law02_RowOrders (x_law02_large : Ty_law02_large) (x_law02_lives : Ty_law02_lives) (x_row_Compare : Ty_row_Compare) (x_ref02_Compare : Ty_ref02_Compare) (x_row_Same : Ty_row_Same) (x_row_By : Ty_row_By) (x_ref02_By : Ty_ref02_By) (v_a : List (List Dat)) (v_b : List (List Dat)) (v_cols : List (List Dat)) (v_down : List (List Dat)) (γ : Type) (K : Bool → Option γ) : Option γ := x_law02_large v_a γ fun (z6 : Bool) => bif z6 then x_law02_lives γ fun (z7 : Bool) => K z7 else x_law02_large v_b γ fun (z8 : Bool) => bif z8 then x_law02_lives γ fun (z9 : Bool) => K z9 else bif decide (100 < Int.ofNat (List.length v_cols)) then x_law02_lives γ fun (z10 : Bool) => K z10 else bif decide (200 < Int.ofNat (List.length v_down)) then x_law02_lives γ fun (z11 : Bool) => K z11 else x_row_Compare v_a v_b γ fun (z12 : Int) => x_law02_lives γ fun (z13 : Bool) => bif z13 then x_ref02_Compare v_a v_b γ fun (z14 : Int) => bif decide (z12 = z14) then x_row_Compare v_b v_a γ fun (z15 : Int) => bif decide (z15 = IntKind.wrap IntKind.i64 (0 - z12)) then x_row_Same v_a v_b γ fun (z16 : Bool) => bif z16 == decide (z12 = 0) then x_row_By v_a v_b v_cols v_down γ fun (z17 : Int) => x_ref02_By v_a v_b v_cols v_down γ fun (z18 : Int) => K (decide (z17 = z18)) else K false else K false else K false else K false
theorem e_law02_RowOrders (p : Par) (x_law02_large : Ty_law02_large) (x_law02_lives : Ty_law02_lives) (x_row_Compare : Ty_row_Compare) (x_ref02_Compare : Ty_ref02_Compare) (x_row_Same : Ty_row_Same) (x_row_By : Ty_row_By) (x_ref02_By : Ty_ref02_By) (v_a : List (List Dat)) (v_b : List (List Dat)) (v_cols : List (List Dat)) (v_down : List (List Dat)) (γ : Type) (K : List Ent × Sig → Option γ) : evFK (cfg p) (T_law02_RowOrders x_law02_large x_law02_lives x_row_Compare x_ref02_Compare x_row_Same x_row_By x_ref02_By) (L_law02_RowOrders x_law02_large x_law02_lives x_row_Compare x_ref02_Compare x_row_Same x_row_By x_ref02_By) 5 [AVal.dat (Dat.sl v_a), AVal.dat (Dat.sl v_b), AVal.dat (Dat.sl v_cols), AVal.dat (Dat.sl v_down)] [] γ K = Sp.B_law02_RowOrders x_law02_large x_law02_lives x_row_Compare x_ref02_Compare x_row_Same x_row_By x_ref02_By v_a v_b v_cols v_down γ (fun r0 => K ([(AVal.dat (Dat.bool r0), Own.none)], [])) := by kernel_rfl
def Sp.law02_RowOrders : Ty_law02_RowOrders := Sp.B_law02_RowOrders Sp.law02_large Sp.law02_lives Sp.row_Compare Sp.ref02_Compare Sp.row_Same Sp.row_By Sp.ref02_By
theorem E_law02_RowOrders (p : Par) {F : Ent3} (hF : EntOk (cfg p) 5 F) : EntOk (cfg p) 5 (P_law02_RowOrders Sp.law02_RowOrders F) := by
  intro a s γ K q h
  unfold P_law02_RowOrders at h
  split at h
  · exact body_ok (tab_call (tab_call (tab_call (tab_call (tab_call (tab_call (tab_call (tab_nil _) (E_law02_large p (ent_none _ _))) (E_law02_lives p (ent_none _ _))) (E_row_Compare p (ent_none _ _))) (E_ref02_Compare p (ent_none _ _))) (E_row_Same p (ent_none _ _))) (E_row_By p (ent_none _ _))) (E_ref02_By p (ent_none _ _))) rfl ((e_law02_RowOrders p _ _ _ _ _ _ _ _ _ _ _ _ _).trans h)
  · exact hF _ _ _ _ _ h
abbrev Ty_ref02_Pick_L0 : Type 1 := List (List Dat) → List (List Dat) → List (List Dat) → Bool → List (List Dat) → Int → (γ : Type) → (Ex → List (List Dat) → Bool → List (List Dat) → Int → Option γ) → Option γ
def P_ref02_Pick_L0 (X : Ty_ref02_Pick_L0) (F : Loop3) : Loop3 := fun a s γ K => match a, s with
  | [AVal.dat (Dat.sl v_r), AVal.dat (Dat.sl v_cols)], ([AVal.dat (Dat.sl v_), AVal.dat (Dat.bool v__1), AVal.dat (Dat.sl v_out), AVal.dat (Dat.int IntKind.i64 v_i)], []) => X v_r v_cols v_ v__1 v_out v_i γ (fun e x0 x1 x2 x3 => K (e, ([AVal.dat (Dat.sl x0), AVal.dat (Dat.bool x1), AVal.dat (Dat.sl x2), AVal.dat (Dat.int IntKind.i64 x3)], [])))
  | a, s => F a s γ K
def T_ref02_Pick_L0  : CallK := noneK
def L_ref02_Pick_L0  : LoopK := noneL
def Sp.B_ref02_Pick_L0 (x_ref02_Pick_L0 : Ty_ref02_Pick_L0)  (v_r : List (List Dat)) (v_cols : List (List Dat)) (v_ : List (List Dat)) (v__1 : Bool) (v_out : List (List Dat)) (v_i : Int) (γ : Type) (K : Ex → List (List Dat) → Bool → List (List Dat) → Int → Option γ) : Option γ := bif sized v_ 3 then bif sized v_out 3 then bif decide (v_i < Int.ofNat (List.length v_cols)) then elemAt v_cols v_i fun (z8 : List Dat) => bif List.length z8 == 1 then cellAt z8 0 fun (z9 : Dat) => Aev.asInt IntKind.i64 z9 fun (z10 : Int) => bif decide (z10 < 0) then K Ex.ret [] false v_out v_i else elemAt v_cols v_i fun (z11 : List Dat) => bif List.length z11 == 1 then cellAt z11 0 fun (z12 : Dat) => Aev.asInt IntKind.i64 z12 fun (z13 : Int) => bif decide (Int.ofNat (List.length v_r) ≤ z13) then K Ex.ret [] false v_out v_i else elemAt v_cols v_i fun (z14 : List Dat) => bif List.length z14 == 1 then cellAt z14 0 fun (z15 : Dat) => Aev.asInt IntKind.i64 z15 fun (z16 : Int) => elemAt v_r z16 fun (z17 : List Dat) => bif List.length z17 == 3 then cellAt z17 0 fun (z18 : Dat) => Aev.asInt IntKind.i64 z18 fun (z19 : Int) => cellAt z17 1 fun (z20 : Dat) => Aev.asInt IntKind.i64 z20 fun (z21 : Int) => cellAt z17 2 fun (z22 : Dat) => asStr z22 fun (z23 : ByteArray) => bif sized v_out 3 && true && true && decide ((List.length v_out + 1) * 33 ≤ 70368744177664) && true then x_ref02_Pick_L0 v_r v_cols v_ v__1 (v_out ++ [[Dat.int IntKind.i64 z19, Dat.int IntKind.i64 z21, Dat.str z23]]) (IntKind.wrap IntKind.i64 (v_i + 1)) γ K else none else none else none else none else none else K (Ex.exit 0) v_ v__1 v_out v_i else none else none
theorem e_ref02_Pick_L0 (p : Par) (x_ref02_Pick_L0 : Ty_ref02_Pick_L0)  (v_r : List (List Dat)) (v_cols : List (List Dat)) (v_ : List (List Dat)) (v__1 : Bool) (v_out : List (List Dat)) (v_i : Int) (γ : Type) (K : Ex × Vars → Option γ) : roundK (cfg p) (T_ref02_Pick_L0 ) (L_ref02_Pick_L0 ) 26 0 [AVal.dat (Dat.sl v_r), AVal.dat (Dat.sl v_cols)] ([AVal.dat (Dat.sl v_), AVal.dat (Dat.bool v__1), AVal.dat (Dat.sl v_out), AVal.dat (Dat.int IntKind.i64 v_i)], []) γ (contL (fun v => P_ref02_Pick_L0 x_ref02_Pick_L0 noneL3 [AVal.dat (Dat.sl v_r), AVal.dat (Dat.sl v_cols)] v γ K) K) = Sp.B_ref02_Pick_L0 x_ref02_Pick_L0  v_r v_cols v_ v__1 v_out v_i γ (fun e x0 x1 x2 x3 => K (e, ([AVal.dat (Dat.sl x0), AVal.dat (Dat.bool x1), AVal.dat (Dat.sl x2), AVal.dat (Dat.int IntKind.i64 x3)], []))) := by kernel_rfl
def Sp.ref02_Pick_L0 : Nat → Ty_ref02_Pick_L0
  | 0 => fun _ _ _ _ _ _ _ _ => none
  | n + 1 => Sp.B_ref02_Pick_L0 (Sp.ref02_Pick_L0 n) 
theorem E0_ref02_Pick_L0 (p : Par)   : ∀ n, EntOkL (cfg p) 26 0 (P_ref02_Pick_L0 (Sp.ref02_Pick_L0  n) noneL3) := entL_rounds (tab_nil _) (by kernel_rfl) (fun c v γ K => by unfold P_ref02_Pick_L0; split <;> rfl) fun n c v γ K q h => by
  unfold P_ref02_Pick_L0 at h
  split at h
  · exact (e_ref02_Pick_L0 p _  _ _ _ _ _ _ _ _).trans h
  · cases h
theorem E_ref02_Pick_L0 (p : Par)   (n : Nat) {F : Loop3} (hF : EntOkL (cfg p) 26 0 F) : EntOkL (cfg p) 26 0 (P_ref02_Pick_L0 (Sp.ref02_Pick_L0  n) F) := by
  intro c v γ K q h
  unfold P_ref02_Pick_L0 at h
  split at h
  · exact E0_ref02_Pick_L0 p   n _ _ _ _ _ h
  · exact hF _ _ _ _ _ h
abbrev Ty_ref02_Pick : Type 1 := List (List Dat) → List (List Dat) → (γ : Type) → (List (List Dat) → Bool → Option γ) → Option γ
def P_ref02_Pick (X : Ty_ref02_Pick) (F : Ent3) : Ent3 := fun a s γ K => match a, s with
  | [AVal.dat (Dat.sl v_r), AVal.dat (Dat.sl v_cols)], [] => X v_r v_cols γ (fun r0 r1 => K ([(AVal.dat (Dat.sl r0), Own.none), (AVal.dat (Dat.bool r1), Own.none)], []))
  | a, s => F a s γ K
def T_ref02_Pick (x_ref02_Pick_L0 : Ty_ref02_Pick_L0) : CallK := noneK
def L_ref02_Pick (x_ref02_Pick_L0 : Ty_ref02_Pick_L0) : LoopK := (addL noneL 26 0 (P_ref02_Pick_L0 x_ref02_Pick_L0 noneL3))
def Sp.B_ref02_Pick (x_ref02_Pick_L0 : Ty_ref02_Pick_L0) (v_r : List (List Dat)) (v_cols : List (List Dat)) (γ : Type) (K : List (List Dat) → Bool → Option γ) : Option γ := x_ref02_Pick_L0 v_r v_cols [] false [] 0 γ fun (z4 : Ex) (z5 : List (List Dat)) (z6 : Bool) (z7 : List (List Dat)) (z8 : Int) => bif sized z5 3 then bif sized z7 3 then bif Ex.isExit z4 0 then K z7 (decide (Int.ofNat (List.length v_cols) ≤ 32)) else bif Ex.isRet z4 then K z5 z6 else none else none else none
theorem e_ref02_Pick (p : Par) (x_ref02_Pick_L0 : Ty_ref02_Pick_L0) (v_r : List (List Dat)) (v_cols : List (List Dat)) (γ : Type) (K : List Ent × Sig → Option γ) : evFK (cfg p) (T_ref02_Pick x_ref02_Pick_L0) (L_ref02_Pick x_ref02_Pick_L0) 26 [AVal.dat (Dat.sl v_r), AVal.dat (Dat.sl v_cols)] [] γ K = Sp.B_ref02_Pick x_ref02_Pick_L0 v_r v_cols γ (fun r0 r1 => K ([(AVal.dat (Dat.sl r0), Own.none), (AVal.dat (Dat.bool r1), Own.none)], [])) := by kernel_rfl
def Sp.ref02_Pick : Ty_ref02_Pick := Sp.B_ref02_Pick (Sp.ref02_Pick_L0 fuel)
theorem E_ref02_Pick (p : Par) {F : Ent3} (hF : EntOk (cfg p) 26 F) : EntOk (cfg p) 26 (P_ref02_Pick Sp.ref02_Pick F) := by
  intro a s γ K q h
  unfold P_ref02_Pick at h
  split at h
  · exact body_ok (tab_loop (tab_nil _) (E_ref02_Pick_L0 p fuel (entL_none _ _ _))) rfl ((e_ref02_Pick p _ _ _ _ _).trans h)
  · exact hF _ _ _ _ _ h
abbrev Ty_law02_RowParts : Type 1 := List (List Dat) → List (List Dat) → List (List Dat) → Int → (γ : Type) → (Bool → Option γ) → Option γ
def P_law02_RowParts (X : Ty_law02_RowParts) (F : Ent3) : Ent3 := fun a s γ K => match a, s with
  | [AVal.dat (Dat.sl v_a), AVal.dat (Dat.sl v_b), AVal.dat (Dat.sl v_cols), AVal.dat (Dat.int IntKind.i64 v_n)], [] => X v_a v_b v_cols v_n γ (fun r0 => K ([(AVal.dat (Dat.bool r0), Own.none)], []))
  | a, s => F a s γ K
def T_law02_RowParts (x_law02_large : Ty_law02_large) (x_law02_lives : Ty_law02_lives) (x_row_Pick : Ty_row_Pick) (x_row_Join : Ty_row_Join) (x_row_Nulls : Ty_row_Nulls) (x_ref02_Pick : Ty_ref02_Pick) (x_ref02_Same : Ty_ref02_Same) : CallK := (addK (addK (addK (addK (addK (addK (addK noneK 8 (P_law02_large x_law02_large none3)) 9 (P_law02_lives x_law02_lives none3)) 23 (P_row_Pick x_row_Pick none3)) 24 (P_row_Join x_row_Join none3)) 25 (P_row_Nulls x_row_Nulls none3)) 26 (P_ref02_Pick x_ref02_Pick none3)) 18 (P_ref02_Same x_ref02_Same none3))
def L_law02_RowParts (x_law02_large : Ty_law02_large) (x_law02_lives : Ty_law02_lives) (x_row_Pick : Ty_row_Pick) (x_row_Join : Ty_row_Join) (x_row_Nulls : Ty_row_Nulls) (x_ref02_Pick : Ty_ref02_Pick) (x_ref02_Same : Ty_ref02_Same) : LoopK := noneL
def Sp.B_law02_RowParts (x_law02_large : Ty_law02_large) (x_law02_lives : Ty_law02_lives) (x_row_Pick : Ty_row_Pick) (x_row_Join : Ty_row_Join) (x_row_Nulls : Ty_row_Nulls) (x_ref02_Pick : Ty_ref02_Pick) (x_ref02_Same : Ty_ref02_Same) (v_a : List (List Dat)) (v_b : List (List Dat)) (v_cols : List (List Dat)) (v_n : Int) (γ : Type) (K : Bool → Option γ) : Option γ := x_law02_large v_a γ fun (z6 : Bool) => bif z6 then x_law02_lives γ fun (z7 : Bool) => K z7 else x_law02_large v_b γ fun (z8 : Bool) => bif z8 then x_law02_lives γ fun (z9 : Bool) => K z9 else bif decide (100 < Int.ofNat (List.length v_cols)) then x_law02_lives γ fun (z10 : Bool) => K z10 else x_row_Pick v_a v_cols γ fun (z11 : List (List Dat)) (z12 : Int) => x_row_Join v_a v_b γ fun (z13 : List (List Dat)) (z14 : Int) => x_row_Nulls v_n γ fun (z15 : List (List Dat)) (z16 : Int) => x_ref02_Pick v_a v_cols γ fun (z17 : List (List Dat)) (z18 : Bool) => x_law02_lives γ fun (z19 : Bool) => bif !z19 then K false else bif !decide (z12 = 0) == z18 then K false else bif z18 then x_ref02_Same z11 z17 γ fun (z20 : Bool) => bif !z20 then K false else bif !z18 then bif !decide (z12 = 1) then K false else bif decide (0 < Int.ofNat (List.length z11)) then K false else bif decide (32 < IntKind.wrap IntKind.i64 (Int.ofNat (List.length v_a) + Int.ofNat (List.length v_b))) then bif !decide (z14 = 3) then K false else bif decide (0 < Int.ofNat (List.length z13)) then K false else bif decide (v_n < 0) then bif decide (z16 = 1) then K (decide (Int.ofNat (List.length z15) = 0)) else K false else bif decide (32 < v_n) then bif decide (z16 = 1) then K (decide (Int.ofNat (List.length z15) = 0)) else K false else bif decide (z16 = 0) then bif decide (0 ≤ v_n) && decide (v_n ≤ v_n) && decide (v_n * 33 ≤ 70368744177664) && true && true then x_ref02_Same z15 (List.replicate (Int.toNat v_n) [Dat.int IntKind.i64 0, Dat.int IntKind.i64 0, Dat.str (bs [])]) γ fun (z21 : Bool) => K z21 else none else K false else bif !decide (z14 = 0) then K false else bif sized v_a 3 && true && decide ((0 + List.length v_a) * 33 ≤ 70368744177664) && true then bif sized ([] ++ v_a) 3 && sized v_b 3 && true && decide ((List.length ([] ++ v_a) + List.length v_b) * 33 ≤ 70368744177664) && true then x_ref02_Same z13 ([] ++ v_a ++ v_b) γ fun (z22 : Bool) => bif !z22 then K false else bif decide (v_n < 0) then bif decide (z16 = 1) then K (decide (Int.ofNat (List.length z15) = 0)) else K false else bif decide (32 < v_n) then bif decide (z16 = 1) then K (decide (Int.ofNat (List.length z15) = 0)) else K false else bif decide (z16 = 0) then bif decide (0 ≤ v_n) && decide (v_n ≤ v_n) && decide (v_n * 33 ≤ 70368744177664) && true && true then x_ref02_Same z15 (List.replicate (Int.toNat v_n) [Dat.int IntKind.i64 0, Dat.int IntKind.i64 0, Dat.str (bs [])]) γ fun (z23 : Bool) => K z23 else none else K false else none else none else bif decide (32 < IntKind.wrap IntKind.i64 (Int.ofNat (List.length v_a) + Int.ofNat (List.length v_b))) then bif !decide (z14 = 3) then K false else bif decide (0 < Int.ofNat (List.length z13)) then K false else bif decide (v_n < 0) then bif decide (z16 = 1) then K (decide (Int.ofNat (List.length z15) = 0)) else K false else bif decide (32 < v_n) then bif decide (z16 = 1) then K (decide (Int.ofNat (List.length z15) = 0)) else K false else bif decide (z16 = 0) then bif decide (0 ≤ v_n) && decide (v_n ≤ v_n) && decide (v_n * 33 ≤ 70368744177664) && true && true then x_ref02_Same z15 (List.replicate (Int.toNat v_n) [Dat.int IntKind.i64 0, Dat.int IntKind.i64 0, Dat.str (bs [])]) γ fun (z24 : Bool) => K z24 else none else K false else bif !decide (z14 = 0) then K false else bif sized v_a 3 && true && decide ((0 + List.length v_a) * 33 ≤ 70368744177664) && true then bif sized ([] ++ v_a) 3 && sized v_b 3 && true && decide ((List.length ([] ++ v_a) + List.length v_b) * 33 ≤ 70368744177664) && true then x_ref02_Same z13 ([] ++ v_a ++ v_b) γ fun (z25 : Bool) => bif !z25 then K false else bif decide (v_n < 0) then bif decide (z16 = 1) then K (decide (Int.ofNat (List.length z15) = 0)) else K false else bif decide (32 < v_n) then bif decide (z16 = 1) then K (decide (Int.ofNat (List.length z15) = 0)) else K false else bif decide (z16 = 0) then bif decide (0 ≤ v_n) && decide (v_n ≤ v_n) && decide (v_n * 33 ≤ 70368744177664) && true && true then x_ref02_Same z15 (List.replicate (Int.toNat v_n) [Dat.int IntKind.i64 0, Dat.int IntKind.i64 0, Dat.str (bs [])]) γ fun (z26 : Bool) => K z26 else none else K false else none else none else bif !z18 then bif !decide (z12 = 1) then K false else bif decide (0 < Int.ofNat (List.length z11)) then K false else bif decide (32 < IntKind.wrap IntKind.i64 (Int.ofNat (List.length v_a) + Int.ofNat (List.length v_b))) then bif !decide (z14 = 3) then K false else bif decide (0 < Int.ofNat (List.length z13)) then K false else bif decide (v_n < 0) then bif decide (z16 = 1) then K (decide (Int.ofNat (List.length z15) = 0)) else K false else bif decide (32 < v_n) then bif decide (z16 = 1) then K (decide (Int.ofNat (List.length z15) = 0)) else K false else bif decide (z16 = 0) then bif decide (0 ≤ v_n) && decide (v_n ≤ v_n) && decide (v_n * 33 ≤ 70368744177664) && true && true then x_ref02_Same z15 (List.replicate (Int.toNat v_n) [Dat.int IntKind.i64 0, Dat.int IntKind.i64 0, Dat.str (bs [])]) γ fun (z27 : Bool) => K z27 else none else K false else bif !decide (z14 = 0) then K false else bif sized v_a 3 && true && decide ((0 + List.length v_a) * 33 ≤ 70368744177664) && true then bif sized ([] ++ v_a) 3 && sized v_b 3 && true && decide ((List.length ([] ++ v_a) + List.length v_b) * 33 ≤ 70368744177664) && true then x_ref02_Same z13 ([] ++ v_a ++ v_b) γ fun (z28 : Bool) => bif !z28 then K false else bif decide (v_n < 0) then bif decide (z16 = 1) then K (decide (Int.ofNat (List.length z15) = 0)) else K false else bif decide (32 < v_n) then bif decide (z16 = 1) then K (decide (Int.ofNat (List.length z15) = 0)) else K false else bif decide (z16 = 0) then bif decide (0 ≤ v_n) && decide (v_n ≤ v_n) && decide (v_n * 33 ≤ 70368744177664) && true && true then x_ref02_Same z15 (List.replicate (Int.toNat v_n) [Dat.int IntKind.i64 0, Dat.int IntKind.i64 0, Dat.str (bs [])]) γ fun (z29 : Bool) => K z29 else none else K false else none else none else bif decide (32 < IntKind.wrap IntKind.i64 (Int.ofNat (List.length v_a) + Int.ofNat (List.length v_b))) then bif !decide (z14 = 3) then K false else bif decide (0 < Int.ofNat (List.length z13)) then K false else bif decide (v_n < 0) then bif decide (z16 = 1) then K (decide (Int.ofNat (List.length z15) = 0)) else K false else bif decide (32 < v_n) then bif decide (z16 = 1) then K (decide (Int.ofNat (List.length z15) = 0)) else K false else bif decide (z16 = 0) then bif decide (0 ≤ v_n) && decide (v_n ≤ v_n) && decide (v_n * 33 ≤ 70368744177664) && true && true then x_ref02_Same z15 (List.replicate (Int.toNat v_n) [Dat.int IntKind.i64 0, Dat.int IntKind.i64 0, Dat.str (bs [])]) γ fun (z30 : Bool) => K z30 else none else K false else bif !decide (z14 = 0) then K false else bif sized v_a 3 && true && decide ((0 + List.length v_a) * 33 ≤ 70368744177664) && true then bif sized ([] ++ v_a) 3 && sized v_b 3 && true && decide ((List.length ([] ++ v_a) + List.length v_b) * 33 ≤ 70368744177664) && true then x_ref02_Same z13 ([] ++ v_a ++ v_b) γ fun (z31 : Bool) => bif !z31 then K false else bif decide (v_n < 0) then bif decide (z16 = 1) then K (decide (Int.ofNat (List.length z15) = 0)) else K false else bif decide (32 < v_n) then bif decide (z16 = 1) then K (decide (Int.ofNat (List.length z15) = 0)) else K false else bif decide (z16 = 0) then bif decide (0 ≤ v_n) && decide (v_n ≤ v_n) && decide (v_n * 33 ≤ 70368744177664) && true && true then x_ref02_Same z15 (List.replicate (Int.toNat v_n) [Dat.int IntKind.i64 0, Dat.int IntKind.i64 0, Dat.str (bs [])]) γ fun (z32 : Bool) => K z32 else none else K false else none else none
theorem e_law02_RowParts (p : Par) (x_law02_large : Ty_law02_large) (x_law02_lives : Ty_law02_lives) (x_row_Pick : Ty_row_Pick) (x_row_Join : Ty_row_Join) (x_row_Nulls : Ty_row_Nulls) (x_ref02_Pick : Ty_ref02_Pick) (x_ref02_Same : Ty_ref02_Same) (v_a : List (List Dat)) (v_b : List (List Dat)) (v_cols : List (List Dat)) (v_n : Int) (γ : Type) (K : List Ent × Sig → Option γ) : evFK (cfg p) (T_law02_RowParts x_law02_large x_law02_lives x_row_Pick x_row_Join x_row_Nulls x_ref02_Pick x_ref02_Same) (L_law02_RowParts x_law02_large x_law02_lives x_row_Pick x_row_Join x_row_Nulls x_ref02_Pick x_ref02_Same) 6 [AVal.dat (Dat.sl v_a), AVal.dat (Dat.sl v_b), AVal.dat (Dat.sl v_cols), AVal.dat (Dat.int IntKind.i64 v_n)] [] γ K = Sp.B_law02_RowParts x_law02_large x_law02_lives x_row_Pick x_row_Join x_row_Nulls x_ref02_Pick x_ref02_Same v_a v_b v_cols v_n γ (fun r0 => K ([(AVal.dat (Dat.bool r0), Own.none)], [])) := by kernel_rfl
def Sp.law02_RowParts : Ty_law02_RowParts := Sp.B_law02_RowParts Sp.law02_large Sp.law02_lives Sp.row_Pick Sp.row_Join Sp.row_Nulls Sp.ref02_Pick Sp.ref02_Same
theorem E_law02_RowParts (p : Par) {F : Ent3} (hF : EntOk (cfg p) 6 F) : EntOk (cfg p) 6 (P_law02_RowParts Sp.law02_RowParts F) := by
  intro a s γ K q h
  unfold P_law02_RowParts at h
  split at h
  · exact body_ok (tab_call (tab_call (tab_call (tab_call (tab_call (tab_call (tab_call (tab_nil _) (E_law02_large p (ent_none _ _))) (E_law02_lives p (ent_none _ _))) (E_row_Pick p (ent_none _ _))) (E_row_Join p (ent_none _ _))) (E_row_Nulls p (ent_none _ _))) (E_ref02_Pick p (ent_none _ _))) (E_ref02_Same p (ent_none _ _))) rfl ((e_law02_RowParts p _ _ _ _ _ _ _ _ _ _ _ _ _).trans h)
  · exact hF _ _ _ _ _ h
abbrev Ty_law02_RowSorts_L0 : Type 1 := List (List Dat) → Bool → Int → (γ : Type) → (Ex → Bool → Int → Option γ) → Option γ
def P_law02_RowSorts_L0 (X : Ty_law02_RowSorts_L0) (F : Loop3) : Loop3 := fun a s γ K => match a, s with
  | [AVal.dat (Dat.sl v_l)], ([AVal.dat (Dat.bool v_), AVal.dat (Dat.int IntKind.i64 v_i)], []) => X v_l v_ v_i γ (fun e x0 x1 => K (e, ([AVal.dat (Dat.bool x0), AVal.dat (Dat.int IntKind.i64 x1)], [])))
  | a, s => F a s γ K
def T_law02_RowSorts_L0 (x_law02_large : Ty_law02_large) (x_law02_lives : Ty_law02_lives) : CallK := (addK (addK noneK 8 (P_law02_large x_law02_large none3)) 9 (P_law02_lives x_law02_lives none3))
def L_law02_RowSorts_L0 (x_law02_large : Ty_law02_large) (x_law02_lives : Ty_law02_lives) : LoopK := noneL
def Sp.B_law02_RowSorts_L0 (x_law02_RowSorts_L0 : Ty_law02_RowSorts_L0) (x_law02_large : Ty_law02_large) (x_law02_lives : Ty_law02_lives) (v_l : List (List Dat)) (v_ : Bool) (v_i : Int) (γ : Type) (K : Ex → Bool → Int → Option γ) : Option γ := bif decide (v_i < Int.ofNat (List.length v_l)) then elemAt v_l v_i fun (z5 : List Dat) => bif List.length z5 == 1 then cellAt z5 0 fun (z6 : Dat) => asSl z6 fun (z7 : List (List Dat)) => x_law02_large z7 γ fun (z8 : Bool) => bif z8 then x_law02_lives γ fun (z9 : Bool) => K Ex.ret z9 v_i else x_law02_RowSorts_L0 v_l v_ (IntKind.wrap IntKind.i64 (v_i + 1)) γ K else none else K (Ex.exit 0) v_ v_i
theorem e_law02_RowSorts_L0 (p : Par) (x_law02_RowSorts_L0 : Ty_law02_RowSorts_L0) (x_law02_large : Ty_law02_large) (x_law02_lives : Ty_law02_lives) (v_l : List (List Dat)) (v_ : Bool) (v_i : Int) (γ : Type) (K : Ex × Vars → Option γ) : roundK (cfg p) (T_law02_RowSorts_L0 x_law02_large x_law02_lives) (L_law02_RowSorts_L0 x_law02_large x_law02_lives) 7 0 [AVal.dat (Dat.sl v_l)] ([AVal.dat (Dat.bool v_), AVal.dat (Dat.int IntKind.i64 v_i)], []) γ (contL (fun v => P_law02_RowSorts_L0 x_law02_RowSorts_L0 noneL3 [AVal.dat (Dat.sl v_l)] v γ K) K) = Sp.B_law02_RowSorts_L0 x_law02_RowSorts_L0 x_law02_large x_law02_lives v_l v_ v_i γ (fun e x0 x1 => K (e, ([AVal.dat (Dat.bool x0), AVal.dat (Dat.int IntKind.i64 x1)], []))) := by kernel_rfl
def Sp.law02_RowSorts_L0 : Nat → Ty_law02_RowSorts_L0
  | 0 => fun _ _ _ _ _ => none
  | n + 1 => Sp.B_law02_RowSorts_L0 (Sp.law02_RowSorts_L0 n) Sp.law02_large Sp.law02_lives
theorem E0_law02_RowSorts_L0 (p : Par)   : ∀ n, EntOkL (cfg p) 7 0 (P_law02_RowSorts_L0 (Sp.law02_RowSorts_L0  n) noneL3) := entL_rounds (tab_call (tab_call (tab_nil _) (E_law02_large p (ent_none _ _))) (E_law02_lives p (ent_none _ _))) (by kernel_rfl) (fun c v γ K => by unfold P_law02_RowSorts_L0; split <;> rfl) fun n c v γ K q h => by
  unfold P_law02_RowSorts_L0 at h
  split at h
  · exact (e_law02_RowSorts_L0 p _ _ _ _ _ _ _ _).trans h
  · cases h
theorem E_law02_RowSorts_L0 (p : Par)   (n : Nat) {F : Loop3} (hF : EntOkL (cfg p) 7 0 F) : EntOkL (cfg p) 7 0 (P_law02_RowSorts_L0 (Sp.law02_RowSorts_L0  n) F) := by
  intro c v γ K q h
  unfold P_law02_RowSorts_L0 at h
  split at h
  · exact E0_law02_RowSorts_L0 p   n _ _ _ _ _ h
  · exact hF _ _ _ _ _ h
abbrev Ty_ref02_Sort_L0 : Type 1 := List (List Dat) → List (List Dat) → List (List Dat) → (γ : Type) → (Ex → List (List Dat) → List (List Dat) → List (List Dat) → Option γ) → Option γ
def P_ref02_Sort_L0 (X : Ty_ref02_Sort_L0) (F : Loop3) : Loop3 := fun a s γ K => match a, s with
  | [], ([AVal.dat (Dat.sl v_a), AVal.dat (Dat.sl v_b), AVal.dat (Dat.sl v_out)], []) => X v_a v_b v_out γ (fun e x0 x1 x2 => K (e, ([AVal.dat (Dat.sl x0), AVal.dat (Dat.sl x1), AVal.dat (Dat.sl x2)], [])))
  | a, s => F a s γ K
def T_ref02_Sort_L0 (x_ref02_Compare : Ty_ref02_Compare) : CallK := (addK noneK 20 (P_ref02_Compare x_ref02_Compare none3))
def L_ref02_Sort_L0 (x_ref02_Compare : Ty_ref02_Compare) : LoopK := noneL
def Sp.B_ref02_Sort_L0 (x_ref02_Sort_L0 : Ty_ref02_Sort_L0) (x_ref02_Compare : Ty_ref02_Compare) (v_a : List (List Dat)) (v_b : List (List Dat)) (v_out : List (List Dat)) (γ : Type) (K : Ex → List (List Dat) → List (List Dat) → List (List Dat) → Option γ) : Option γ := bif sized v_out 1 then bif decide (0 < Int.ofNat (List.length v_a)) then bif decide (Int.ofNat (List.length v_b) = 0) then elemAt v_a 0 fun (z5 : List Dat) => bif List.length z5 == 1 then cellAt z5 0 fun (z6 : Dat) => asSl z6 fun (z7 : List (List Dat)) => bif sized v_out 1 && true && true && decide ((List.length v_out + 1) * 25 ≤ 70368744177664) && true then bif decide (1 ≤ Int.ofNat (List.length v_a)) && decide (Int.ofNat (List.length v_a) ≤ Int.ofNat (List.length v_a)) && true && sized v_a 1 then x_ref02_Sort_L0 (List.drop 1 (List.take (Int.toNat (Int.ofNat (List.length v_a))) v_a)) v_b (v_out ++ [[Dat.sl z7]]) γ K else none else none else none else bif decide (0 < Int.ofNat (List.length v_a)) then elemAt v_a 0 fun (z8 : List Dat) => bif List.length z8 == 1 then cellAt z8 0 fun (z9 : Dat) => asSl z9 fun (z10 : List (List Dat)) => elemAt v_b 0 fun (z11 : List Dat) => bif List.length z11 == 1 then cellAt z11 0 fun (z12 : Dat) => asSl z12 fun (z13 : List (List Dat)) => x_ref02_Compare z10 z13 γ fun (z14 : Int) => bif decide (z14 ≤ 0) then elemAt v_a 0 fun (z15 : List Dat) => bif List.length z15 == 1 then cellAt z15 0 fun (z16 : Dat) => asSl z16 fun (z17 : List (List Dat)) => bif sized v_out 1 && true && true && decide ((List.length v_out + 1) * 25 ≤ 70368744177664) && true then bif decide (1 ≤ Int.ofNat (List.length v_a)) && decide (Int.ofNat (List.length v_a) ≤ Int.ofNat (List.length v_a)) && true && sized v_a 1 then x_ref02_Sort_L0 (List.drop 1 (List.take (Int.toNat (Int.ofNat (List.length v_a))) v_a)) v_b (v_out ++ [[Dat.sl z17]]) γ K else none else none else none else elemAt v_b 0 fun (z18 : List Dat) => bif List.length z18 == 1 then cellAt z18 0 fun (z19 : Dat) => asSl z19 fun (z20 : List (List Dat)) => bif sized v_out 1 && true && true && decide ((List.length v_out + 1) * 25 ≤ 70368744177664) && true then bif decide (1 ≤ Int.ofNat (List.length v_b)) && decide (Int.ofNat (List.length v_b) ≤ Int.ofNat (List.length v_b)) && true && sized v_b 1 then x_ref02_Sort_L0 v_a (List.drop 1 (List.take (Int.toNat (Int.ofNat (List.length v_b))) v_b)) (v_out ++ [[Dat.sl z20]]) γ K else none else none else none else none else none else elemAt v_b 0 fun (z21 : List Dat) => bif List.length z21 == 1 then cellAt z21 0 fun (z22 : Dat) => asSl z22 fun (z23 : List (List Dat)) => bif sized v_out 1 && true && true && decide ((List.length v_out + 1) * 25 ≤ 70368744177664) && true then bif decide (1 ≤ Int.ofNat (List.length v_b)) && decide (Int.ofNat (List.length v_b) ≤ Int.ofNat (List.length v_b)) && true && sized v_b 1 then x_ref02_Sort_L0 v_a (List.drop 1 (List.take (Int.toNat (Int.ofNat (List.length v_b))) v_b)) (v_out ++ [[Dat.sl z23]]) γ K else none else none else none else bif decide (0 < Int.ofNat (List.length v_b)) then bif decide (Int.ofNat (List.length v_b) = 0) then elemAt v_a 0 fun (z24 : List Dat) => bif List.length z24 == 1 then cellAt z24 0 fun (z25 : Dat) => asSl z25 fun (z26 : List (List Dat)) => bif sized v_out 1 && true && true && decide ((List.length v_out + 1) * 25 ≤ 70368744177664) && true then bif decide (1 ≤ Int.ofNat (List.length v_a)) && decide (Int.ofNat (List.length v_a) ≤ Int.ofNat (List.length v_a)) && true && sized v_a 1 then x_ref02_Sort_L0 (List.drop 1 (List.take (Int.toNat (Int.ofNat (List.length v_a))) v_a)) v_b (v_out ++ [[Dat.sl z26]]) γ K else none else none else none else bif decide (0 < Int.ofNat (List.length v_a)) then elemAt v_a 0 fun (z27 : List Dat) => bif List.length z27 == 1 then cellAt z27 0 fun (z28 : Dat) => asSl z28 fun (z29 : List (List Dat)) => elemAt v_b 0 fun (z30 : List Dat) => bif List.length z30 == 1 then cellAt z30 0 fun (z31 : Dat) => asSl z31 fun (z32 : List (List Dat)) => x_ref02_Compare z29 z32 γ fun (z33 : Int) => bif decide (z33 ≤ 0) then elemAt v_a 0 fun (z34 : List Dat) => bif List.length z34 == 1 then cellAt z34 0 fun (z35 : Dat) => asSl z35 fun (z36 : List (List Dat)) => bif sized v_out 1 && true && true && decide ((List.length v_out + 1) * 25 ≤ 70368744177664) && true then bif decide (1 ≤ Int.ofNat (List.length v_a)) && decide (Int.ofNat (List.length v_a) ≤ Int.ofNat (List.length v_a)) && true && sized v_a 1 then x_ref02_Sort_L0 (List.drop 1 (List.take (Int.toNat (Int.ofNat (List.length v_a))) v_a)) v_b (v_out ++ [[Dat.sl z36]]) γ K else none else none else none else elemAt v_b 0 fun (z37 : List Dat) => bif List.length z37 == 1 then cellAt z37 0 fun (z38 : Dat) => asSl z38 fun (z39 : List (List Dat)) => bif sized v_out 1 && true && true && decide ((List.length v_out + 1) * 25 ≤ 70368744177664) && true then bif decide (1 ≤ Int.ofNat (List.length v_b)) && decide (Int.ofNat (List.length v_b) ≤ Int.ofNat (List.length v_b)) && true && sized v_b 1 then x_ref02_Sort_L0 v_a (List.drop 1 (List.take (Int.toNat (Int.ofNat (List.length v_b))) v_b)) (v_out ++ [[Dat.sl z39]]) γ K else none else none else none else none else none else elemAt v_b 0 fun (z40 : List Dat) => bif List.length z40 == 1 then cellAt z40 0 fun (z41 : Dat) => asSl z41 fun (z42 : List (List Dat)) => bif sized v_out 1 && true && true && decide ((List.length v_out + 1) * 25 ≤ 70368744177664) && true then bif decide (1 ≤ Int.ofNat (List.length v_b)) && decide (Int.ofNat (List.length v_b) ≤ Int.ofNat (List.length v_b)) && true && sized v_b 1 then x_ref02_Sort_L0 v_a (List.drop 1 (List.take (Int.toNat (Int.ofNat (List.length v_b))) v_b)) (v_out ++ [[Dat.sl z42]]) γ K else none else none else none else K (Ex.exit 0) v_a v_b v_out else none
theorem e_ref02_Sort_L0 (p : Par) (x_ref02_Sort_L0 : Ty_ref02_Sort_L0) (x_ref02_Compare : Ty_ref02_Compare) (v_a : List (List Dat)) (v_b : List (List Dat)) (v_out : List (List Dat)) (γ : Type) (K : Ex × Vars → Option γ) : roundK (cfg p) (T_ref02_Sort_L0 x_ref02_Compare) (L_ref02_Sort_L0 x_ref02_Compare) 29 0 [] ([AVal.dat (Dat.sl v_a), AVal.dat (Dat.sl v_b), AVal.dat (Dat.sl v_out)], []) γ (contL (fun v => P_ref02_Sort_L0 x_ref02_Sort_L0 noneL3 [] v γ K) K) = Sp.B_ref02_Sort_L0 x_ref02_Sort_L0 x_ref02_Compare v_a v_b v_out γ (fun e x0 x1 x2 => K (e, ([AVal.dat (Dat.sl x0), AVal.dat (Dat.sl x1), AVal.dat (Dat.sl x2)], []))) := by kernel_rfl
def Sp.ref02_Sort_L0 : Nat → Ty_ref02_Sort_L0
  | 0 => fun _ _ _ _ _ => none
  | n + 1 => Sp.B_ref02_Sort_L0 (Sp.ref02_Sort_L0 n) Sp.ref02_Compare
theorem E0_ref02_Sort_L0 (p : Par)   : ∀ n, EntOkL (cfg p) 29 0 (P_ref02_Sort_L0 (Sp.ref02_Sort_L0  n) noneL3) := entL_rounds (tab_call (tab_nil _) (E_ref02_Compare p (ent_none _ _))) (by kernel_rfl) (fun c v γ K => by unfold P_ref02_Sort_L0; split <;> rfl) fun n c v γ K q h => by
  unfold P_ref02_Sort_L0 at h
  split at h
  · exact (e_ref02_Sort_L0 p _ _ _ _ _ _ _).trans h
  · cases h
theorem E_ref02_Sort_L0 (p : Par)   (n : Nat) {F : Loop3} (hF : EntOkL (cfg p) 29 0 F) : EntOkL (cfg p) 29 0 (P_ref02_Sort_L0 (Sp.ref02_Sort_L0  n) F) := by
  intro c v γ K q h
  unfold P_ref02_Sort_L0 at h
  split at h
  · exact E0_ref02_Sort_L0 p   n _ _ _ _ _ h
  · exact hF _ _ _ _ _ h
abbrev Ty_ref02_Sort : Type 1 := List (List Dat) → (γ : Type) → (List (List Dat) → Option γ) → Option γ
def P_ref02_Sort (X : Ty_ref02_Sort) (F : Ent3) : Ent3 := fun a s γ K => match a, s with
  | [AVal.dat (Dat.sl v_l)], [] => X v_l γ (fun r0 => K ([(AVal.dat (Dat.sl r0), Own.none)], []))
  | a, s => F a s γ K
def T_ref02_Sort (x_ref02_Sort : Ty_ref02_Sort) (x_ref02_Sort_L0 : Ty_ref02_Sort_L0) : CallK := (addK noneK 29 (P_ref02_Sort x_ref02_Sort none3))
def L_ref02_Sort (x_ref02_Sort : Ty_ref02_Sort) (x_ref02_Sort_L0 : Ty_ref02_Sort_L0) : LoopK := (addL noneL 29 0 (P_ref02_Sort_L0 x_ref02_Sort_L0 noneL3))
def Sp.B_ref02_Sort (x_ref02_Sort : Ty_ref02_Sort) (x_ref02_Sort_L0 : Ty_ref02_Sort_L0) (v_l : List (List Dat)) (γ : Type) (K : List (List Dat) → Option γ) : Option γ := bif decide (Int.ofNat (List.length v_l) < 2) then bif sized v_l 1 && true && decide ((0 + List.length v_l) * 25 ≤ 70368744177664) && true then K ([] ++ v_l) else none else bif decide (0 ≤ IntKind.wrap IntKind.i64 (Int.tdiv (Int.ofNat (List.length v_l)) 2)) && decide (IntKind.wrap IntKind.i64 (Int.tdiv (Int.ofNat (List.length v_l)) 2) ≤ Int.ofNat (List.length v_l)) && true && true then x_ref02_Sort (List.drop 0 (List.take (Int.toNat (IntKind.wrap IntKind.i64 (Int.tdiv (Int.ofNat (List.length v_l)) 2))) v_l)) γ fun (z3 : List (List Dat)) => bif decide (0 ≤ IntKind.wrap IntKind.i64 (Int.tdiv (Int.ofNat (List.length v_l)) 2)) && decide (IntKind.wrap IntKind.i64 (Int.tdiv (Int.ofNat (List.length v_l)) 2) ≤ Int.ofNat (List.length v_l)) && decide (Int.ofNat (List.length v_l) ≤ Int.ofNat (List.length v_l)) && true && sized v_l 1 then x_ref02_Sort (List.drop (Int.toNat (IntKind.wrap IntKind.i64 (Int.tdiv (Int.ofNat (List.length v_l)) 2))) (List.take (Int.toNat (Int.ofNat (List.length v_l))) v_l)) γ fun (z4 : List (List Dat)) => x_ref02_Sort_L0 z3 z4 [] γ fun (z5 : Ex) (z6 z7 z8 : List (List Dat)) => bif sized z8 1 then bif Ex.isExit z5 0 then K z8 else bif Ex.isRet z5 then none else none else none else none else none
theorem e_ref02_Sort (p : Par) (x_ref02_Sort : Ty_ref02_Sort) (x_ref02_Sort_L0 : Ty_ref02_Sort_L0) (v_l : List (List Dat)) (γ : Type) (K : List Ent × Sig → Option γ) : evFK (cfg p) (T_ref02_Sort x_ref02_Sort x_ref02_Sort_L0) (L_ref02_Sort x_ref02_Sort x_ref02_Sort_L0) 29 [AVal.dat (Dat.sl v_l)] [] γ K = Sp.B_ref02_Sort x_ref02_Sort x_ref02_Sort_L0 v_l γ (fun r0 => K ([(AVal.dat (Dat.sl r0), Own.none)], [])) := by kernel_rfl
def Sp.ref02_Sort : Nat → Ty_ref02_Sort
  | 0 => fun _ _ _ => none
  | n + 1 => Sp.B_ref02_Sort (Sp.ref02_Sort n) (Sp.ref02_Sort_L0 fuel)
theorem G77_ok (p : Par) (n : Nat) : (∀ {F : Ent3}, EntOk (cfg p) 29 F → EntOk (cfg p) 29 (P_ref02_Sort (Sp.ref02_Sort n) F)) := by
  induction n with
  | zero =>
    refine ?_
    · intro F hF a s γ K q h
      unfold P_ref02_Sort at h
      split at h
      · cases h
      · exact hF _ _ _ _ _ h
  | succ n ih =>
    refine ?_
    · intro F hF a s γ K q h
      unfold P_ref02_Sort at h
      split at h
      · exact body_ok (tab_loop (tab_call (tab_nil _) (ih (ent_none _ _))) (E_ref02_Sort_L0 p fuel (entL_none _ _ _))) rfl ((e_ref02_Sort p _ _ _ _ _).trans h)
      · exact hF _ _ _ _ _ h
theorem E_ref02_Sort (p : Par) (n : Nat) {F : Ent3} (hF : EntOk (cfg p) 29 F) : EntOk (cfg p) 29 (P_ref02_Sort (Sp.ref02_Sort n) F) := (G77_ok p n) hF
abbrev Ty_ref02_SameList_L0 : Type 1 := List (List Dat) → List (List Dat) → Bool → Int → (γ : Type) → (Ex → Bool → Int → Option γ) → Option γ
def P_ref02_SameList_L0 (X : Ty_ref02_SameList_L0) (F : Loop3) : Loop3 := fun a s γ K => match a, s with
  | [AVal.dat (Dat.sl v_a), AVal.dat (Dat.sl v_b)], ([AVal.dat (Dat.bool v_), AVal.dat (Dat.int IntKind.i64 v_i)], []) => X v_a v_b v_ v_i γ (fun e x0 x1 => K (e, ([AVal.dat (Dat.bool x0), AVal.dat (Dat.int IntKind.i64 x1)], [])))
  | a, s => F a s γ K
def T_ref02_SameList_L0 (x_ref02_Same : Ty_ref02_Same) : CallK := (addK noneK 18 (P_ref02_Same x_ref02_Same none3))
def L_ref02_SameList_L0 (x_ref02_Same : Ty_ref02_Same) : LoopK := noneL
def Sp.B_ref02_SameList_L0 (x_ref02_SameList_L0 : Ty_ref02_SameList_L0) (x_ref02_Same : Ty_ref02_Same) (v_a : List (List Dat)) (v_b : List (List Dat)) (v_ : Bool) (v_i : Int) (γ : Type) (K : Ex → Bool → Int → Option γ) : Option γ := bif decide (v_i < Int.ofNat (List.length v_a)) then elemAt v_a v_i fun (z6 : List Dat) => bif List.length z6 == 1 then cellAt z6 0 fun (z7 : Dat) => asSl z7 fun (z8 : List (List Dat)) => elemAt v_b v_i fun (z9 : List Dat) => bif List.length z9 == 1 then cellAt z9 0 fun (z10 : Dat) => asSl z10 fun (z11 : List (List Dat)) => x_ref02_Same z8 z11 γ fun (z12 : Bool) => bif !z12 then K Ex.ret false v_i else x_ref02_SameList_L0 v_a v_b v_ (IntKind.wrap IntKind.i64 (v_i + 1)) γ K else none else none else K (Ex.exit 0) v_ v_i
theorem e_ref02_SameList_L0 (p : Par) (x_ref02_SameList_L0 : Ty_ref02_SameList_L0) (x_ref02_Same : Ty_ref02_Same) (v_a : List (List Dat)) (v_b : List (List Dat)) (v_ : Bool) (v_i : Int) (γ : Type) (K : Ex × Vars → Option γ) : roundK (cfg p) (T_ref02_SameList_L0 x_ref02_Same) (L_ref02_SameList_L0 x_ref02_Same) 28 0 [AVal.dat (Dat.sl v_a), AVal.dat (Dat.sl v_b)] ([AVal.dat (Dat.bool v_), AVal.dat (Dat.int IntKind.i64 v_i)], []) γ (contL (fun v => P_ref02_SameList_L0 x_ref02_SameList_L0 noneL3 [AVal.dat (Dat.sl v_a), AVal.dat (Dat.sl v_b)] v γ K) K) = Sp.B_ref02_SameList_L0 x_ref02_SameList_L0 x_ref02_Same v_a v_b v_ v_i γ (fun e x0 x1 => K (e, ([AVal.dat (Dat.bool x0), AVal.dat (Dat.int IntKind.i64 x1)], []))) := by kernel_rfl
def Sp.ref02_SameList_L0 : Nat → Ty_ref02_SameList_L0
  | 0 => fun _ _ _ _ _ _ => none
  | n + 1 => Sp.B_ref02_SameList_L0 (Sp.ref02_SameList_L0 n) Sp.ref02_Same
theorem E0_ref02_SameList_L0 (p : Par)   : ∀ n, EntOkL (cfg p) 28 0 (P_ref02_SameList_L0 (Sp.ref02_SameList_L0  n) noneL3) := entL_rounds (tab_call (tab_nil _) (E_ref02_Same p (ent_none _ _))) (by kernel_rfl) (fun c v γ K => by unfold P_ref02_SameList_L0; split <;> rfl) fun n c v γ K q h => by
  unfold P_ref02_SameList_L0 at h
  split at h
  · exact (e_ref02_SameList_L0 p _ _ _ _ _ _ _ _).trans h
  · cases h
theorem E_ref02_SameList_L0 (p : Par)   (n : Nat) {F : Loop3} (hF : EntOkL (cfg p) 28 0 F) : EntOkL (cfg p) 28 0 (P_ref02_SameList_L0 (Sp.ref02_SameList_L0  n) F) := by
  intro c v γ K q h
  unfold P_ref02_SameList_L0 at h
  split at h
  · exact E0_ref02_SameList_L0 p   n _ _ _ _ _ h
  · exact hF _ _ _ _ _ h
abbrev Ty_ref02_SameList : Type 1 := List (List Dat) → List (List Dat) → (γ : Type) → (Bool → Option γ) → Option γ
def P_ref02_SameList (X : Ty_ref02_SameList) (F : Ent3) : Ent3 := fun a s γ K => match a, s with
  | [AVal.dat (Dat.sl v_a), AVal.dat (Dat.sl v_b)], [] => X v_a v_b γ (fun r0 => K ([(AVal.dat (Dat.bool r0), Own.none)], []))
  | a, s => F a s γ K
def T_ref02_SameList (x_ref02_SameList_L0 : Ty_ref02_SameList_L0) : CallK := noneK
def L_ref02_SameList (x_ref02_SameList_L0 : Ty_ref02_SameList_L0) : LoopK := (addL noneL 28 0 (P_ref02_SameList_L0 x_ref02_SameList_L0 noneL3))
def Sp.B_ref02_SameList (x_ref02_SameList_L0 : Ty_ref02_SameList_L0) (v_a : List (List Dat)) (v_b : List (List Dat)) (γ : Type) (K : Bool → Option γ) : Option γ := bif !decide (Int.ofNat (List.length v_a) = Int.ofNat (List.length v_b)) then K false else x_ref02_SameList_L0 v_a v_b false 0 γ fun (z4 : Ex) (z5 : Bool) (z6 : Int) => bif Ex.isExit z4 0 then K true else bif Ex.isRet z4 then K z5 else none
theorem e_ref02_SameList (p : Par) (x_ref02_SameList_L0 : Ty_ref02_SameList_L0) (v_a : List (List Dat)) (v_b : List (List Dat)) (γ : Type) (K : List Ent × Sig → Option γ) : evFK (cfg p) (T_ref02_SameList x_ref02_SameList_L0) (L_ref02_SameList x_ref02_SameList_L0) 28 [AVal.dat (Dat.sl v_a), AVal.dat (Dat.sl v_b)] [] γ K = Sp.B_ref02_SameList x_ref02_SameList_L0 v_a v_b γ (fun r0 => K ([(AVal.dat (Dat.bool r0), Own.none)], [])) := by kernel_rfl
def Sp.ref02_SameList : Ty_ref02_SameList := Sp.B_ref02_SameList (Sp.ref02_SameList_L0 fuel)
theorem E_ref02_SameList (p : Par) {F : Ent3} (hF : EntOk (cfg p) 28 F) : EntOk (cfg p) 28 (P_ref02_SameList Sp.ref02_SameList F) := by
  intro a s γ K q h
  unfold P_ref02_SameList at h
  split at h
  · exact body_ok (tab_loop (tab_nil _) (E_ref02_SameList_L0 p fuel (entL_none _ _ _))) rfl ((e_ref02_SameList p _ _ _ _ _).trans h)
  · exact hF _ _ _ _ _ h
abbrev Ty_law02_RowSorts : Type 1 := List (List Dat) → (γ : Type) → (Bool → Option γ) → Option γ
def P_law02_RowSorts (X : Ty_law02_RowSorts) (F : Ent3) : Ent3 := fun a s γ K => match a, s with
  | [AVal.dat (Dat.sl v_l)], [] => X v_l γ (fun r0 => K ([(AVal.dat (Dat.bool r0), Own.none)], []))
  | a, s => F a s γ K
def T_law02_RowSorts (x_law02_lives : Ty_law02_lives) (x_law02_RowSorts_L0 : Ty_law02_RowSorts_L0) (x_row_Sort : Ty_row_Sort) (x_ref02_Sort : Ty_ref02_Sort) (x_ref02_SameList : Ty_ref02_SameList) : CallK := (addK (addK (addK (addK noneK 9 (P_law02_lives x_law02_lives none3)) 27 (P_row_Sort x_row_Sort none3)) 29 (P_ref02_Sort x_ref02_Sort none3)) 28 (P_ref02_SameList x_ref02_SameList none3))
def L_law02_RowSorts (x_law02_lives : Ty_law02_lives) (x_law02_RowSorts_L0 : Ty_law02_RowSorts_L0) (x_row_Sort : Ty_row_Sort) (x_ref02_Sort : Ty_ref02_Sort) (x_ref02_SameList : Ty_ref02_SameList) : LoopK := (addL noneL 7 0 (P_law02_RowSorts_L0 x_law02_RowSorts_L0 noneL3))
def Sp.B_law02_RowSorts (x_law02_lives : Ty_law02_lives) (x_law02_RowSorts_L0 : Ty_law02_RowSorts_L0) (x_row_Sort : Ty_row_Sort) (x_ref02_Sort : Ty_ref02_Sort) (x_ref02_SameList : Ty_ref02_SameList) (v_l : List (List Dat)) (γ : Type) (K : Bool → Option γ) : Option γ := bif decide (200 < Int.ofNat (List.length v_l)) then x_law02_lives γ fun (z3 : Bool) => K z3 else x_law02_RowSorts_L0 v_l false 0 γ fun (z4 : Ex) (z5 : Bool) (z6 : Int) => bif Ex.isExit z4 0 then bif sized v_l 1 && true && decide ((0 + List.length v_l) * 25 ≤ 70368744177664) && true then x_row_Sort ([] ++ v_l) γ fun (z7 : List (List Dat)) => x_law02_lives γ fun (z8 : Bool) => bif z8 then x_ref02_Sort v_l γ fun (z9 : List (List Dat)) => x_ref02_SameList z7 z9 γ fun (z10 : Bool) => bif z10 then x_ref02_SameList ([] ++ v_l) v_l γ fun (z11 : Bool) => K z11 else K false else K false else none else bif Ex.isRet z4 then K z5 else none
theorem e_law02_RowSorts (p : Par) (x_law02_lives : Ty_law02_lives) (x_law02_RowSorts_L0 : Ty_law02_RowSorts_L0) (x_row_Sort : Ty_row_Sort) (x_ref02_Sort : Ty_ref02_Sort) (x_ref02_SameList : Ty_ref02_SameList) (v_l : List (List Dat)) (γ : Type) (K : List Ent × Sig → Option γ) : evFK (cfg p) (T_law02_RowSorts x_law02_lives x_law02_RowSorts_L0 x_row_Sort x_ref02_Sort x_ref02_SameList) (L_law02_RowSorts x_law02_lives x_law02_RowSorts_L0 x_row_Sort x_ref02_Sort x_ref02_SameList) 7 [AVal.dat (Dat.sl v_l)] [] γ K = Sp.B_law02_RowSorts x_law02_lives x_law02_RowSorts_L0 x_row_Sort x_ref02_Sort x_ref02_SameList v_l γ (fun r0 => K ([(AVal.dat (Dat.bool r0), Own.none)], [])) := by kernel_rfl
def Sp.law02_RowSorts : Ty_law02_RowSorts := Sp.B_law02_RowSorts Sp.law02_lives (Sp.law02_RowSorts_L0 fuel) Sp.row_Sort (Sp.ref02_Sort fuel) Sp.ref02_SameList
theorem E_law02_RowSorts (p : Par) {F : Ent3} (hF : EntOk (cfg p) 7 F) : EntOk (cfg p) 7 (P_law02_RowSorts Sp.law02_RowSorts F) := by
  intro a s γ K q h
  unfold P_law02_RowSorts at h
  split at h
  · exact body_ok (tab_loop (tab_call (tab_call (tab_call (tab_call (tab_nil _) (E_law02_lives p (ent_none _ _))) (E_row_Sort p (ent_none _ _))) (E_ref02_Sort p fuel (ent_none _ _))) (E_ref02_SameList p (ent_none _ _))) (E_law02_RowSorts_L0 p fuel (entL_none _ _ _))) rfl ((e_law02_RowSorts p _ _ _ _ _ _ _ _).trans h)
  · exact hF _ _ _ _ _ h
end
end Go.Proofs.Ytcglmokfjohdaaa

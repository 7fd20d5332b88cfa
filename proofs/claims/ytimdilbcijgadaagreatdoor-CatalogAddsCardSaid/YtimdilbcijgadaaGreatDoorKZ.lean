/- What the functions of this program compute, printed by a program. -/
import Derived.Test.YtimdilbcijgadaaGreatDoorK2
import Derived.KernelRfl
set_option linter.unusedVariables false
namespace Go.Proofs.YtimdilbcijgadaaGreatDoor.Z
open Go Go.Aev Go.RowKit
noncomputable section
abbrev Ty_cmp_isNaN_int : Type 1 := Int → (γ : Type) → (Bool → Option γ) → Option γ
def P_cmp_isNaN_int (X : Ty_cmp_isNaN_int) (F : Ent3) : Ent3 := fun a s γ K => match a, s with
  | [AVal.dat (Dat.int IntKind.i64 v_x)], [] => X v_x γ (fun r0 => K ([(AVal.dat (Dat.bool r0), Own.none)], []))
  | a, s => F a s γ K
def T_cmp_isNaN_int  : CallK := noneK
def L_cmp_isNaN_int  : LoopK := noneL
def Sp.B_cmp_isNaN_int  (v_x : Int) (γ : Type) (K : Bool → Option γ) : Option γ := K !decide (v_x = v_x)
theorem e_cmp_isNaN_int (p : Par) (v_x) (γ : Type) (K : List Ent × Sig → Option γ) : evFK (cfgZ p) (T_cmp_isNaN_int ) (L_cmp_isNaN_int ) 142 [AVal.dat (Dat.int IntKind.i64 v_x)] [] γ K = Sp.B_cmp_isNaN_int  v_x γ (fun r0 => K ([(AVal.dat (Dat.bool r0), Own.none)], [])) := by kernel_rfl
def Sp.cmp_isNaN_int : Ty_cmp_isNaN_int := Sp.B_cmp_isNaN_int 
theorem E_cmp_isNaN_int (p : Par) {F : Ent3} (hF : EntOk (cfgZ p) 142 F) : EntOk (cfgZ p) 142 (P_cmp_isNaN_int Sp.cmp_isNaN_int F) := by
  intro a s γ K q h
  unfold P_cmp_isNaN_int at h
  split at h
  · exact body_ok (tab_nil _) rfl ((e_cmp_isNaN_int p  _ _ _).trans h)
  · exact hF _ _ _ _ _ h
abbrev Ty_cmp_Compare_int : Type 1 := Int → Int → (γ : Type) → (Int → Option γ) → Option γ
def P_cmp_Compare_int (X : Ty_cmp_Compare_int) (F : Ent3) : Ent3 := fun a s γ K => match a, s with
  | [AVal.dat (Dat.int IntKind.i64 v_x), AVal.dat (Dat.int IntKind.i64 v_y)], [] => X v_x v_y γ (fun r0 => K ([(AVal.dat (Dat.int IntKind.i64 r0), Own.none)], []))
  | a, s => F a s γ K
def T_cmp_Compare_int (x_cmp_isNaN_int : Ty_cmp_isNaN_int) : CallK := (addK noneK 142 (P_cmp_isNaN_int x_cmp_isNaN_int none3))
def L_cmp_Compare_int (x_cmp_isNaN_int : Ty_cmp_isNaN_int) : LoopK := noneL
def Sp.B_cmp_Compare_int (x_cmp_isNaN_int : Ty_cmp_isNaN_int) (v_x v_y : Int) (γ : Type) (K : Int → Option γ) : Option γ := x_cmp_isNaN_int v_x γ fun (z4 : Bool) => x_cmp_isNaN_int v_y γ fun (z5 : Bool) => bif z4 then bif z5 then K 0 else K (-1) else bif z5 then K 1 else bif decide (v_x < v_y) then K (-1) else bif decide (v_y < v_x) then K 1 else K 0
theorem e_cmp_Compare_int (p : Par) (x_cmp_isNaN_int v_x v_y) (γ : Type) (K : List Ent × Sig → Option γ) : evFK (cfgZ p) (T_cmp_Compare_int x_cmp_isNaN_int) (L_cmp_Compare_int x_cmp_isNaN_int) 128 [AVal.dat (Dat.int IntKind.i64 v_x), AVal.dat (Dat.int IntKind.i64 v_y)] [] γ K = Sp.B_cmp_Compare_int x_cmp_isNaN_int v_x v_y γ (fun r0 => K ([(AVal.dat (Dat.int IntKind.i64 r0), Own.none)], [])) := by kernel_rfl
def Sp.cmp_Compare_int : Ty_cmp_Compare_int := Sp.B_cmp_Compare_int Sp.cmp_isNaN_int
theorem E_cmp_Compare_int (p : Par) {F : Ent3} (hF : EntOk (cfgZ p) 128 F) : EntOk (cfgZ p) 128 (P_cmp_Compare_int Sp.cmp_Compare_int F) := by
  intro a s γ K q h
  unfold P_cmp_Compare_int at h
  split at h
  · exact body_ok (tab_call (tab_nil _) (E_cmp_isNaN_int p (ent_none _ _))) rfl ((e_cmp_Compare_int p _ _ _ _ _).trans h)
  · exact hF _ _ _ _ _ h
abbrev Ty_cmp_isNaN_string : Type 1 := ByteArray → (γ : Type) → (Bool → Option γ) → Option γ
def P_cmp_isNaN_string (X : Ty_cmp_isNaN_string) (F : Ent3) : Ent3 := fun a s γ K => match a, s with
  | [AVal.dat (Dat.str v_x)], [] => X v_x γ (fun r0 => K ([(AVal.dat (Dat.bool r0), Own.none)], []))
  | a, s => F a s γ K
def T_cmp_isNaN_string  : CallK := noneK
def L_cmp_isNaN_string  : LoopK := noneL
def Sp.B_cmp_isNaN_string  (v_x : ByteArray) (γ : Type) (K : Bool → Option γ) : Option γ := K !decide (v_x = v_x)
theorem e_cmp_isNaN_string (p : Par) (v_x) (γ : Type) (K : List Ent × Sig → Option γ) : evFK (cfgZ p) (T_cmp_isNaN_string ) (L_cmp_isNaN_string ) 143 [AVal.dat (Dat.str v_x)] [] γ K = Sp.B_cmp_isNaN_string  v_x γ (fun r0 => K ([(AVal.dat (Dat.bool r0), Own.none)], [])) := by kernel_rfl
def Sp.cmp_isNaN_string : Ty_cmp_isNaN_string := Sp.B_cmp_isNaN_string 
theorem E_cmp_isNaN_string (p : Par) {F : Ent3} (hF : EntOk (cfgZ p) 143 F) : EntOk (cfgZ p) 143 (P_cmp_isNaN_string Sp.cmp_isNaN_string F) := by
  intro a s γ K q h
  unfold P_cmp_isNaN_string at h
  split at h
  · exact body_ok (tab_nil _) rfl ((e_cmp_isNaN_string p  _ _ _).trans h)
  · exact hF _ _ _ _ _ h
abbrev Ty_cmp_Compare_string : Type 1 := ByteArray → ByteArray → (γ : Type) → (Int → Option γ) → Option γ
def P_cmp_Compare_string (X : Ty_cmp_Compare_string) (F : Ent3) : Ent3 := fun a s γ K => match a, s with
  | [AVal.dat (Dat.str v_x), AVal.dat (Dat.str v_y)], [] => X v_x v_y γ (fun r0 => K ([(AVal.dat (Dat.int IntKind.i64 r0), Own.none)], []))
  | a, s => F a s γ K
def T_cmp_Compare_string (x_cmp_isNaN_string : Ty_cmp_isNaN_string) : CallK := (addK noneK 143 (P_cmp_isNaN_string x_cmp_isNaN_string none3))
def L_cmp_Compare_string (x_cmp_isNaN_string : Ty_cmp_isNaN_string) : LoopK := noneL
def Sp.B_cmp_Compare_string (x_cmp_isNaN_string : Ty_cmp_isNaN_string) (v_x v_y : ByteArray) (γ : Type) (K : Int → Option γ) : Option γ := x_cmp_isNaN_string v_x γ fun (z4 : Bool) => x_cmp_isNaN_string v_y γ fun (z5 : Bool) => bif z4 then bif z5 then K 0 else K (-1) else bif z5 then K 1 else bif Op.bytesLess (ByteArray.data v_x).1 (ByteArray.data v_y).1 then K (-1) else bif !(Op.bytesLess (ByteArray.data v_x).1 (ByteArray.data v_y).1 || decide (v_x = v_y)) then K 1 else K 0
theorem e_cmp_Compare_string (p : Par) (x_cmp_isNaN_string v_x v_y) (γ : Type) (K : List Ent × Sig → Option γ) : evFK (cfgZ p) (T_cmp_Compare_string x_cmp_isNaN_string) (L_cmp_Compare_string x_cmp_isNaN_string) 129 [AVal.dat (Dat.str v_x), AVal.dat (Dat.str v_y)] [] γ K = Sp.B_cmp_Compare_string x_cmp_isNaN_string v_x v_y γ (fun r0 => K ([(AVal.dat (Dat.int IntKind.i64 r0), Own.none)], [])) := by kernel_rfl
def Sp.cmp_Compare_string : Ty_cmp_Compare_string := Sp.B_cmp_Compare_string Sp.cmp_isNaN_string
theorem E_cmp_Compare_string (p : Par) {F : Ent3} (hF : EntOk (cfgZ p) 129 F) : EntOk (cfgZ p) 129 (P_cmp_Compare_string Sp.cmp_Compare_string F) := by
  intro a s γ K q h
  unfold P_cmp_Compare_string at h
  split at h
  · exact body_ok (tab_call (tab_nil _) (E_cmp_isNaN_string p (ent_none _ _))) rfl ((e_cmp_Compare_string p _ _ _ _ _).trans h)
  · exact hF _ _ _ _ _ h
abbrev Ty_cmp_Or_int_L0 : Type 1 := Int → List (List Dat) → Int → Int → Int → (γ : Type) → (Ex → Int → Int → Option γ) → Option γ
def P_cmp_Or_int_L0 (X : Ty_cmp_Or_int_L0) (F : Loop3) : Loop3 := fun a s γ K => match a, s with
  | [AVal.dat (Dat.int IntKind.i64 v_zero), AVal.dat (Dat.sl v_), AVal.dat (Dat.int IntKind.i64 v__1)], ([AVal.dat (Dat.int IntKind.i64 v__2), AVal.dat (Dat.int IntKind.i64 v__3)], []) => X v_zero v_ v__1 v__2 v__3 γ (fun e x0 x1 => K (e, ([AVal.dat (Dat.int IntKind.i64 x0), AVal.dat (Dat.int IntKind.i64 x1)], [])))
  | a, s => F a s γ K
def T_cmp_Or_int_L0  : CallK := noneK
def L_cmp_Or_int_L0  : LoopK := noneL
def Sp.B_cmp_Or_int_L0 (x_cmp_Or_int_L0 : Ty_cmp_Or_int_L0)  (v_zero : Int) (v_ : List (List Dat)) (v__1 v__2 v__3 : Int) (γ : Type) (K : Ex → Int → Int → Option γ) : Option γ := bif decide (v__3 < v__1) then elemAt v_ v__3 fun (z7 : List Dat) => bif List.length z7 == 1 then cellAt z7 0 fun (z8 : Dat) => Aev.asInt IntKind.i64 z8 fun (z9 : Int) => bif !decide (z9 = v_zero) then K Ex.ret z9 v__3 else x_cmp_Or_int_L0 v_zero v_ v__1 v__2 (IntKind.wrap IntKind.i64 (v__3 + 1)) γ K else none else K (Ex.exit 0) v__2 v__3
theorem e_cmp_Or_int_L0 (p : Par) (x_cmp_Or_int_L0 : Ty_cmp_Or_int_L0) (v_zero v_ v__1 v__2 v__3) (γ : Type) (K : Ex × Vars → Option γ) : roundK (cfgZ p) (T_cmp_Or_int_L0 ) (L_cmp_Or_int_L0 ) 127 0 [AVal.dat (Dat.int IntKind.i64 v_zero), AVal.dat (Dat.sl v_), AVal.dat (Dat.int IntKind.i64 v__1)] ([AVal.dat (Dat.int IntKind.i64 v__2), AVal.dat (Dat.int IntKind.i64 v__3)], []) γ (contL (fun v => P_cmp_Or_int_L0 x_cmp_Or_int_L0 noneL3 [AVal.dat (Dat.int IntKind.i64 v_zero), AVal.dat (Dat.sl v_), AVal.dat (Dat.int IntKind.i64 v__1)] v γ K) K) = Sp.B_cmp_Or_int_L0 x_cmp_Or_int_L0  v_zero v_ v__1 v__2 v__3 γ (fun e x0 x1 => K (e, ([AVal.dat (Dat.int IntKind.i64 x0), AVal.dat (Dat.int IntKind.i64 x1)], []))) := by kernel_rfl
def Sp.cmp_Or_int_L0 : Nat → Ty_cmp_Or_int_L0
  | 0 => fun _ _ _ _ _ _ _ => none
  | n + 1 => Sp.B_cmp_Or_int_L0 (Sp.cmp_Or_int_L0 n) 
theorem E0_cmp_Or_int_L0 (p : Par)   : ∀ n, EntOkL (cfgZ p) 127 0 (P_cmp_Or_int_L0 (Sp.cmp_Or_int_L0  n) noneL3) := entL_rounds (tab_nil _) (by kernel_rfl) (fun c v γ K => by unfold P_cmp_Or_int_L0; split <;> rfl) fun n c v γ K q h => by
  unfold P_cmp_Or_int_L0 at h
  split at h
  · exact (e_cmp_Or_int_L0 p _  _ _ _ _ _ _ _).trans h
  · cases h
theorem E_cmp_Or_int_L0 (p : Par)   (n : Nat) {F : Loop3} (hF : EntOkL (cfgZ p) 127 0 F) : EntOkL (cfgZ p) 127 0 (P_cmp_Or_int_L0 (Sp.cmp_Or_int_L0  n) F) := by
  intro c v γ K q h
  unfold P_cmp_Or_int_L0 at h
  split at h
  · exact E0_cmp_Or_int_L0 p   n _ _ _ _ _ h
  · exact hF _ _ _ _ _ h
abbrev Ty_cmp_Or_int : Type 1 := List (List Dat) → (γ : Type) → (Int → Option γ) → Option γ
def P_cmp_Or_int (X : Ty_cmp_Or_int) (F : Ent3) : Ent3 := fun a s γ K => match a, s with
  | [AVal.dat (Dat.sl v_vals)], [] => X v_vals γ (fun r0 => K ([(AVal.dat (Dat.int IntKind.i64 r0), Own.none)], []))
  | a, s => F a s γ K
def T_cmp_Or_int (x_cmp_Or_int_L0 : Ty_cmp_Or_int_L0) : CallK := noneK
def L_cmp_Or_int (x_cmp_Or_int_L0 : Ty_cmp_Or_int_L0) : LoopK := (addL noneL 127 0 (P_cmp_Or_int_L0 x_cmp_Or_int_L0 noneL3))
def Sp.B_cmp_Or_int (x_cmp_Or_int_L0 : Ty_cmp_Or_int_L0) (v_vals : List (List Dat)) (γ : Type) (K : Int → Option γ) : Option γ := x_cmp_Or_int_L0 0 v_vals (Int.ofNat (List.length v_vals)) 0 0 γ fun (z3 : Ex) (z4 z5 : Int) => bif Ex.isExit z3 0 then K 0 else bif Ex.isRet z3 then K z4 else none
theorem e_cmp_Or_int (p : Par) (x_cmp_Or_int_L0 v_vals) (γ : Type) (K : List Ent × Sig → Option γ) : evFK (cfgZ p) (T_cmp_Or_int x_cmp_Or_int_L0) (L_cmp_Or_int x_cmp_Or_int_L0) 127 [AVal.dat (Dat.sl v_vals)] [] γ K = Sp.B_cmp_Or_int x_cmp_Or_int_L0 v_vals γ (fun r0 => K ([(AVal.dat (Dat.int IntKind.i64 r0), Own.none)], [])) := by kernel_rfl
def Sp.cmp_Or_int : Ty_cmp_Or_int := Sp.B_cmp_Or_int (Sp.cmp_Or_int_L0 fuel)
theorem E_cmp_Or_int (p : Par) {F : Ent3} (hF : EntOk (cfgZ p) 127 F) : EntOk (cfgZ p) 127 (P_cmp_Or_int Sp.cmp_Or_int F) := by
  intro a s γ K q h
  unfold P_cmp_Or_int at h
  split at h
  · exact body_ok (tab_loop (tab_nil _) (E_cmp_Or_int_L0 p fuel (entL_none _ _ _))) rfl ((e_cmp_Or_int p _ _ _ _).trans h)
  · exact hF _ _ _ _ _ h
abbrev Ty_value_Compare : Type 1 := Int → Int → ByteArray → Int → Int → ByteArray → (γ : Type) → (Int → Option γ) → Option γ
def P_value_Compare (X : Ty_value_Compare) (F : Ent3) : Ent3 := fun a s γ K => match a, s with
  | [AVal.agg [(Dat.int IntKind.i64 v_a0, Own.none), (Dat.int IntKind.i64 v_a1, Own.none), (Dat.str v_a2, Own.none)], AVal.agg [(Dat.int IntKind.i64 v_b0, Own.none), (Dat.int IntKind.i64 v_b1, Own.none), (Dat.str v_b2, Own.none)]], [] => X v_a0 v_a1 v_a2 v_b0 v_b1 v_b2 γ (fun r0 => K ([(AVal.dat (Dat.int IntKind.i64 r0), Own.none)], []))
  | a, s => F a s γ K
def T_value_Compare (x_cmp_Compare_int : Ty_cmp_Compare_int) (x_cmp_Compare_string : Ty_cmp_Compare_string) (x_cmp_Or_int : Ty_cmp_Or_int) : CallK := (addK (addK (addK noneK 128 (P_cmp_Compare_int x_cmp_Compare_int none3)) 129 (P_cmp_Compare_string x_cmp_Compare_string none3)) 127 (P_cmp_Or_int x_cmp_Or_int none3))
def L_value_Compare (x_cmp_Compare_int : Ty_cmp_Compare_int) (x_cmp_Compare_string : Ty_cmp_Compare_string) (x_cmp_Or_int : Ty_cmp_Or_int) : LoopK := noneL
def Sp.B_value_Compare (x_cmp_Compare_int : Ty_cmp_Compare_int) (x_cmp_Compare_string : Ty_cmp_Compare_string) (x_cmp_Or_int : Ty_cmp_Or_int) (v_a0 v_a1 : Int) (v_a2 : ByteArray) (v_b0 v_b1 : Int) (v_b2 : ByteArray) (γ : Type) (K : Int → Option γ) : Option γ := x_cmp_Compare_int v_a0 v_b0 γ fun (z8 : Int) => x_cmp_Compare_int v_a1 v_b1 γ fun (z9 : Int) => x_cmp_Compare_string v_a2 v_b2 γ fun (z10 : Int) => x_cmp_Or_int [[Dat.int IntKind.i64 z8], [Dat.int IntKind.i64 z9], [Dat.int IntKind.i64 z10]] γ fun (z11 : Int) => K z11
theorem e_value_Compare (p : Par) (x_cmp_Compare_int x_cmp_Compare_string x_cmp_Or_int v_a0 v_a1 v_a2 v_b0 v_b1 v_b2) (γ : Type) (K : List Ent × Sig → Option γ) : evFK (cfgZ p) (T_value_Compare x_cmp_Compare_int x_cmp_Compare_string x_cmp_Or_int) (L_value_Compare x_cmp_Compare_int x_cmp_Compare_string x_cmp_Or_int) 110 [AVal.agg [(Dat.int IntKind.i64 v_a0, Own.none), (Dat.int IntKind.i64 v_a1, Own.none), (Dat.str v_a2, Own.none)], AVal.agg [(Dat.int IntKind.i64 v_b0, Own.none), (Dat.int IntKind.i64 v_b1, Own.none), (Dat.str v_b2, Own.none)]] [] γ K = Sp.B_value_Compare x_cmp_Compare_int x_cmp_Compare_string x_cmp_Or_int v_a0 v_a1 v_a2 v_b0 v_b1 v_b2 γ (fun r0 => K ([(AVal.dat (Dat.int IntKind.i64 r0), Own.none)], [])) := by kernel_rfl
def Sp.value_Compare : Ty_value_Compare := Sp.B_value_Compare Sp.cmp_Compare_int Sp.cmp_Compare_string Sp.cmp_Or_int
theorem E_value_Compare (p : Par) {F : Ent3} (hF : EntOk (cfgZ p) 110 F) : EntOk (cfgZ p) 110 (P_value_Compare Sp.value_Compare F) := by
  intro a s γ K q h
  unfold P_value_Compare at h
  split at h
  · exact body_ok (tab_call (tab_call (tab_call (tab_nil _) (E_cmp_Compare_int p (ent_none _ _))) (E_cmp_Compare_string p (ent_none _ _))) (E_cmp_Or_int p (ent_none _ _))) rfl ((e_value_Compare p _ _ _ _ _ _ _ _ _ _ _).trans h)
  · exact hF _ _ _ _ _ h
abbrev Ty_slices_CompareFunc_api_Value_api_Value_api_Value_api_Value_L0 : Type 1 := List (List Dat) → List (List Dat) → List (List Dat) → Int → Int → Int → (γ : Type) → (Ex → Int → Int → Option γ) → Option γ
def P_slices_CompareFunc_api_Value_api_Value_api_Value_api_Value_L0 (X : Ty_slices_CompareFunc_api_Value_api_Value_api_Value_api_Value_L0) (F : Loop3) : Loop3 := fun a s γ K => match a, s with
  | [AVal.dat (Dat.sl v_s1), AVal.dat (Dat.sl v_s2), AVal.clo (Fn.func 110) [] [], AVal.dat (Dat.sl v_), AVal.dat (Dat.int IntKind.i64 v__1)], ([AVal.dat (Dat.int IntKind.i64 v__2), AVal.dat (Dat.int IntKind.i64 v__3)], []) => X v_s1 v_s2 v_ v__1 v__2 v__3 γ (fun e x0 x1 => K (e, ([AVal.dat (Dat.int IntKind.i64 x0), AVal.dat (Dat.int IntKind.i64 x1)], [])))
  | a, s => F a s γ K
def T_slices_CompareFunc_api_Value_api_Value_api_Value_api_Value_L0 (x_value_Compare : Ty_value_Compare) : CallK := (addK noneK 110 (P_value_Compare x_value_Compare none3))
def L_slices_CompareFunc_api_Value_api_Value_api_Value_api_Value_L0 (x_value_Compare : Ty_value_Compare) : LoopK := noneL
def Sp.B_slices_CompareFunc_api_Value_api_Value_api_Value_api_Value_L0 (x_slices_CompareFunc_api_Value_api_Value_api_Value_api_Value_L0 : Ty_slices_CompareFunc_api_Value_api_Value_api_Value_api_Value_L0) (x_value_Compare : Ty_value_Compare) (v_s1 v_s2 v_ : List (List Dat)) (v__1 v__2 v__3 : Int) (γ : Type) (K : Ex → Int → Int → Option γ) : Option γ := bif decide (v__3 < v__1) then elemAt v_ v__3 fun (z8 : List Dat) => bif List.length z8 == 3 then cellAt z8 0 fun (z9 : Dat) => Aev.asInt IntKind.i64 z9 fun (z10 : Int) => cellAt z8 1 fun (z11 : Dat) => Aev.asInt IntKind.i64 z11 fun (z12 : Int) => cellAt z8 2 fun (z13 : Dat) => asStr z13 fun (z14 : ByteArray) => bif decide (Int.ofNat (List.length v_s2) ≤ v__3) then K Ex.ret 1 v__3 else elemAt v_s2 v__3 fun (z15 : List Dat) => bif List.length z15 == 3 then cellAt z15 0 fun (z16 : Dat) => Aev.asInt IntKind.i64 z16 fun (z17 : Int) => cellAt z15 1 fun (z18 : Dat) => Aev.asInt IntKind.i64 z18 fun (z19 : Int) => cellAt z15 2 fun (z20 : Dat) => asStr z20 fun (z21 : ByteArray) => x_value_Compare z10 z12 z14 z17 z19 z21 γ fun (z22 : Int) => bif !decide (z22 = 0) then K Ex.ret z22 v__3 else x_slices_CompareFunc_api_Value_api_Value_api_Value_api_Value_L0 v_s1 v_s2 v_ v__1 v__2 (IntKind.wrap IntKind.i64 (v__3 + 1)) γ K else none else none else K (Ex.exit 0) v__2 v__3
theorem e_slices_CompareFunc_api_Value_api_Value_api_Value_api_Value_L0 (p : Par) (x_slices_CompareFunc_api_Value_api_Value_api_Value_api_Value_L0 : Ty_slices_CompareFunc_api_Value_api_Value_api_Value_api_Value_L0) (x_value_Compare v_s1 v_s2 v_ v__1 v__2 v__3) (γ : Type) (K : Ex × Vars → Option γ) : roundK (cfgZ p) (T_slices_CompareFunc_api_Value_api_Value_api_Value_api_Value_L0 x_value_Compare) (L_slices_CompareFunc_api_Value_api_Value_api_Value_api_Value_L0 x_value_Compare) 109 0 [AVal.dat (Dat.sl v_s1), AVal.dat (Dat.sl v_s2), AVal.clo (Fn.func 110) [] [], AVal.dat (Dat.sl v_), AVal.dat (Dat.int IntKind.i64 v__1)] ([AVal.dat (Dat.int IntKind.i64 v__2), AVal.dat (Dat.int IntKind.i64 v__3)], []) γ (contL (fun v => P_slices_CompareFunc_api_Value_api_Value_api_Value_api_Value_L0 x_slices_CompareFunc_api_Value_api_Value_api_Value_api_Value_L0 noneL3 [AVal.dat (Dat.sl v_s1), AVal.dat (Dat.sl v_s2), AVal.clo (Fn.func 110) [] [], AVal.dat (Dat.sl v_), AVal.dat (Dat.int IntKind.i64 v__1)] v γ K) K) = Sp.B_slices_CompareFunc_api_Value_api_Value_api_Value_api_Value_L0 x_slices_CompareFunc_api_Value_api_Value_api_Value_api_Value_L0 x_value_Compare v_s1 v_s2 v_ v__1 v__2 v__3 γ (fun e x0 x1 => K (e, ([AVal.dat (Dat.int IntKind.i64 x0), AVal.dat (Dat.int IntKind.i64 x1)], []))) := by kernel_rfl
def Sp.slices_CompareFunc_api_Value_api_Value_api_Value_api_Value_L0 : Nat → Ty_slices_CompareFunc_api_Value_api_Value_api_Value_api_Value_L0
  | 0 => fun _ _ _ _ _ _ _ _ => none
  | n + 1 => Sp.B_slices_CompareFunc_api_Value_api_Value_api_Value_api_Value_L0 (Sp.slices_CompareFunc_api_Value_api_Value_api_Value_api_Value_L0 n) Sp.value_Compare
theorem E0_slices_CompareFunc_api_Value_api_Value_api_Value_api_Value_L0 (p : Par)   : ∀ n, EntOkL (cfgZ p) 109 0 (P_slices_CompareFunc_api_Value_api_Value_api_Value_api_Value_L0 (Sp.slices_CompareFunc_api_Value_api_Value_api_Value_api_Value_L0  n) noneL3) := entL_rounds (tab_call (tab_nil _) (E_value_Compare p (ent_none _ _))) (by kernel_rfl) (fun c v γ K => by unfold P_slices_CompareFunc_api_Value_api_Value_api_Value_api_Value_L0; split <;> rfl) fun n c v γ K q h => by
  unfold P_slices_CompareFunc_api_Value_api_Value_api_Value_api_Value_L0 at h
  split at h
  · exact (e_slices_CompareFunc_api_Value_api_Value_api_Value_api_Value_L0 p _ _ _ _ _ _ _ _ _ _).trans h
  · cases h
theorem E_slices_CompareFunc_api_Value_api_Value_api_Value_api_Value_L0 (p : Par)   (n : Nat) {F : Loop3} (hF : EntOkL (cfgZ p) 109 0 F) : EntOkL (cfgZ p) 109 0 (P_slices_CompareFunc_api_Value_api_Value_api_Value_api_Value_L0 (Sp.slices_CompareFunc_api_Value_api_Value_api_Value_api_Value_L0  n) F) := by
  intro c v γ K q h
  unfold P_slices_CompareFunc_api_Value_api_Value_api_Value_api_Value_L0 at h
  split at h
  · exact E0_slices_CompareFunc_api_Value_api_Value_api_Value_api_Value_L0 p   n _ _ _ _ _ h
  · exact hF _ _ _ _ _ h
abbrev Ty_slices_CompareFunc_api_Value_api_Value_api_Value_api_Value : Type 1 := List (List Dat) → List (List Dat) → (γ : Type) → (Int → Option γ) → Option γ
def P_slices_CompareFunc_api_Value_api_Value_api_Value_api_Value (X : Ty_slices_CompareFunc_api_Value_api_Value_api_Value_api_Value) (F : Ent3) : Ent3 := fun a s γ K => match a, s with
  | [AVal.dat (Dat.sl v_s1), AVal.dat (Dat.sl v_s2), AVal.clo (Fn.func 110) [] []], [] => X v_s1 v_s2 γ (fun r0 => K ([(AVal.dat (Dat.int IntKind.i64 r0), Own.none)], []))
  | a, s => F a s γ K
def T_slices_CompareFunc_api_Value_api_Value_api_Value_api_Value (x_slices_CompareFunc_api_Value_api_Value_api_Value_api_Value_L0 : Ty_slices_CompareFunc_api_Value_api_Value_api_Value_api_Value_L0) : CallK := noneK
def L_slices_CompareFunc_api_Value_api_Value_api_Value_api_Value (x_slices_CompareFunc_api_Value_api_Value_api_Value_api_Value_L0 : Ty_slices_CompareFunc_api_Value_api_Value_api_Value_api_Value_L0) : LoopK := (addL noneL 109 0 (P_slices_CompareFunc_api_Value_api_Value_api_Value_api_Value_L0 x_slices_CompareFunc_api_Value_api_Value_api_Value_api_Value_L0 noneL3))
def Sp.B_slices_CompareFunc_api_Value_api_Value_api_Value_api_Value (x_slices_CompareFunc_api_Value_api_Value_api_Value_api_Value_L0 : Ty_slices_CompareFunc_api_Value_api_Value_api_Value_api_Value_L0) (v_s1 v_s2 : List (List Dat)) (γ : Type) (K : Int → Option γ) : Option γ := x_slices_CompareFunc_api_Value_api_Value_api_Value_api_Value_L0 v_s1 v_s2 v_s1 (Int.ofNat (List.length v_s1)) 0 0 γ fun (z4 : Ex) (z5 z6 : Int) => bif Ex.isExit z4 0 then bif decide (Int.ofNat (List.length v_s1) < Int.ofNat (List.length v_s2)) then K (-1) else K 0 else bif Ex.isRet z4 then K z5 else none
theorem e_slices_CompareFunc_api_Value_api_Value_api_Value_api_Value (p : Par) (x_slices_CompareFunc_api_Value_api_Value_api_Value_api_Value_L0 v_s1 v_s2) (γ : Type) (K : List Ent × Sig → Option γ) : evFK (cfgZ p) (T_slices_CompareFunc_api_Value_api_Value_api_Value_api_Value x_slices_CompareFunc_api_Value_api_Value_api_Value_api_Value_L0) (L_slices_CompareFunc_api_Value_api_Value_api_Value_api_Value x_slices_CompareFunc_api_Value_api_Value_api_Value_api_Value_L0) 109 [AVal.dat (Dat.sl v_s1), AVal.dat (Dat.sl v_s2), AVal.clo (Fn.func 110) [] []] [] γ K = Sp.B_slices_CompareFunc_api_Value_api_Value_api_Value_api_Value x_slices_CompareFunc_api_Value_api_Value_api_Value_api_Value_L0 v_s1 v_s2 γ (fun r0 => K ([(AVal.dat (Dat.int IntKind.i64 r0), Own.none)], [])) := by kernel_rfl
def Sp.slices_CompareFunc_api_Value_api_Value_api_Value_api_Value : Ty_slices_CompareFunc_api_Value_api_Value_api_Value_api_Value := Sp.B_slices_CompareFunc_api_Value_api_Value_api_Value_api_Value (Sp.slices_CompareFunc_api_Value_api_Value_api_Value_api_Value_L0 fuel)
theorem E_slices_CompareFunc_api_Value_api_Value_api_Value_api_Value (p : Par) {F : Ent3} (hF : EntOk (cfgZ p) 109 F) : EntOk (cfgZ p) 109 (P_slices_CompareFunc_api_Value_api_Value_api_Value_api_Value Sp.slices_CompareFunc_api_Value_api_Value_api_Value_api_Value F) := by
  intro a s γ K q h
  unfold P_slices_CompareFunc_api_Value_api_Value_api_Value_api_Value at h
  split at h
  · exact body_ok (tab_loop (tab_nil _) (E_slices_CompareFunc_api_Value_api_Value_api_Value_api_Value_L0 p fuel (entL_none _ _ _))) rfl ((e_slices_CompareFunc_api_Value_api_Value_api_Value_api_Value p _ _ _ _ _).trans h)
  · exact hF _ _ _ _ _ h
abbrev Ty_row_Compare : Type 1 := List (List Dat) → List (List Dat) → (γ : Type) → (Int → Option γ) → Option γ
def P_row_Compare (X : Ty_row_Compare) (F : Ent3) : Ent3 := fun a s γ K => match a, s with
  | [AVal.dat (Dat.sl v_a), AVal.dat (Dat.sl v_b)], [] => X v_a v_b γ (fun r0 => K ([(AVal.dat (Dat.int IntKind.i64 r0), Own.none)], []))
  | a, s => F a s γ K
def T_row_Compare (x_slices_CompareFunc_api_Value_api_Value_api_Value_api_Value : Ty_slices_CompareFunc_api_Value_api_Value_api_Value_api_Value) : CallK := (addK noneK 109 (P_slices_CompareFunc_api_Value_api_Value_api_Value_api_Value x_slices_CompareFunc_api_Value_api_Value_api_Value_api_Value none3))
def L_row_Compare (x_slices_CompareFunc_api_Value_api_Value_api_Value_api_Value : Ty_slices_CompareFunc_api_Value_api_Value_api_Value_api_Value) : LoopK := noneL
def Sp.B_row_Compare (x_slices_CompareFunc_api_Value_api_Value_api_Value_api_Value : Ty_slices_CompareFunc_api_Value_api_Value_api_Value_api_Value) (v_a v_b : List (List Dat)) (γ : Type) (K : Int → Option γ) : Option γ := x_slices_CompareFunc_api_Value_api_Value_api_Value_api_Value v_a v_b γ fun (z4 : Int) => K z4
theorem e_row_Compare (p : Par) (x_slices_CompareFunc_api_Value_api_Value_api_Value_api_Value v_a v_b) (γ : Type) (K : List Ent × Sig → Option γ) : evFK (cfgZ p) (T_row_Compare x_slices_CompareFunc_api_Value_api_Value_api_Value_api_Value) (L_row_Compare x_slices_CompareFunc_api_Value_api_Value_api_Value_api_Value) 98 [AVal.dat (Dat.sl v_a), AVal.dat (Dat.sl v_b)] [] γ K = Sp.B_row_Compare x_slices_CompareFunc_api_Value_api_Value_api_Value_api_Value v_a v_b γ (fun r0 => K ([(AVal.dat (Dat.int IntKind.i64 r0), Own.none)], [])) := by kernel_rfl
def Sp.row_Compare : Ty_row_Compare := Sp.B_row_Compare Sp.slices_CompareFunc_api_Value_api_Value_api_Value_api_Value
theorem E_row_Compare (p : Par) {F : Ent3} (hF : EntOk (cfgZ p) 98 F) : EntOk (cfgZ p) 98 (P_row_Compare Sp.row_Compare F) := by
  intro a s γ K q h
  unfold P_row_Compare at h
  split at h
  · exact body_ok (tab_call (tab_nil _) (E_slices_CompareFunc_api_Value_api_Value_api_Value_api_Value p (ent_none _ _))) rfl ((e_row_Compare p _ _ _ _ _).trans h)
  · exact hF _ _ _ _ _ h
end
end Go.Proofs.YtimdilbcijgadaaGreatDoor.Z

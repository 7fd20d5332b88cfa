/- What the functions of this program compute, printed by a program. -/
import Derived.Test.YtchijfnciadkkaaDoorK2
import Derived.KernelRfl
set_option linter.unusedVariables false
namespace Go.Proofs.YtchijfnciadkkaaDoor
open Go Go.Aev Go.RowKit
noncomputable section
abbrev Ty_value_Int : Type 1 := Int → (γ : Type) → (Int → Int → ByteArray → Option γ) → Option γ
def P_value_Int (X : Ty_value_Int) (F : Ent3) : Ent3 := fun a s γ K => match a, s with
  | [AVal.dat (Dat.int IntKind.i64 v_n)], [] => X v_n γ (fun r0 r1 r2 => K ([(AVal.agg [(Dat.int IntKind.i64 r0, Own.none), (Dat.int IntKind.i64 r1, Own.none), (Dat.str r2, Own.none)], Own.none)], []))
  | a, s => F a s γ K
def T_value_Int  : CallK := noneK
def L_value_Int  : LoopK := noneL
def Sp.B_value_Int  (v_n : Int) (γ : Type) (K : Int → Int → ByteArray → Option γ) : Option γ := K 2 v_n (bs [])
theorem e_value_Int (p : Par)  (v_n : Int) (γ : Type) (K : List Ent × Sig → Option γ) : evFK (cfg p) (T_value_Int ) (L_value_Int ) 13 [AVal.dat (Dat.int IntKind.i64 v_n)] [] γ K = Sp.B_value_Int  v_n γ (fun r0 r1 r2 => K ([(AVal.agg [(Dat.int IntKind.i64 r0, Own.none), (Dat.int IntKind.i64 r1, Own.none), (Dat.str r2, Own.none)], Own.none)], [])) := by kernel_rfl
def Sp.value_Int : Ty_value_Int := Sp.B_value_Int 
theorem E_value_Int (p : Par) {F : Ent3} (hF : EntOk (cfg p) 13 F) : EntOk (cfg p) 13 (P_value_Int Sp.value_Int F) := by
  intro a s γ K q h
  unfold P_value_Int at h
  split at h
  · exact body_ok (tab_nil _) rfl ((e_value_Int p  _ _ _).trans h)
  · exact hF _ _ _ _ _ h
abbrev Ty_value_Check : Type 1 := Int → Int → ByteArray → (γ : Type) → (Int → Option γ) → Option γ
def P_value_Check (X : Ty_value_Check) (F : Ent3) : Ent3 := fun a s γ K => match a, s with
  | [AVal.agg [(Dat.int IntKind.i64 v_v0, Own.none), (Dat.int IntKind.i64 v_v1, Own.none), (Dat.str v_v2, Own.none)]], [] => X v_v0 v_v1 v_v2 γ (fun r0 => K ([(AVal.dat (Dat.int IntKind.i64 r0), Own.none)], []))
  | a, s => F a s γ K
def T_value_Check  : CallK := noneK
def L_value_Check  : LoopK := noneL
def Sp.B_value_Check  (v_v0 : Int) (v_v1 : Int) (v_v2 : ByteArray) (γ : Type) (K : Int → Option γ) : Option γ := bif decide (v_v0 = 0) then bif !(decide (v_v0 = 0) && (decide (v_v1 = 0) && (decide (v_v2 = bs []) && true))) then K 10 else K 0 else bif decide (v_v0 = 1) then bif decide (Int.fdiv v_v1 2 = 0) then bif !decide (v_v2 = bs []) then K 10 else K 0 else K 10 else bif decide (v_v0 = 2) then bif decide (-9007199254740991 ≤ v_v1) then bif decide (v_v1 ≤ 9007199254740991) then bif !decide (v_v2 = bs []) then K 10 else K 0 else K 10 else K 10 else bif decide (v_v0 = 3) then bif decide (v_v1 = 0) then bif !decide (Int.ofNat (ByteArray.size v_v2) ≤ 64) then K 10 else K 0 else K 10 else K 10
theorem e_value_Check (p : Par)  (v_v0 : Int) (v_v1 : Int) (v_v2 : ByteArray) (γ : Type) (K : List Ent × Sig → Option γ) : evFK (cfg p) (T_value_Check ) (L_value_Check ) 9 [AVal.agg [(Dat.int IntKind.i64 v_v0, Own.none), (Dat.int IntKind.i64 v_v1, Own.none), (Dat.str v_v2, Own.none)]] [] γ K = Sp.B_value_Check  v_v0 v_v1 v_v2 γ (fun r0 => K ([(AVal.dat (Dat.int IntKind.i64 r0), Own.none)], [])) := by kernel_rfl
def Sp.value_Check : Ty_value_Check := Sp.B_value_Check 
theorem E_value_Check (p : Par) {F : Ent3} (hF : EntOk (cfg p) 9 F) : EntOk (cfg p) 9 (P_value_Check Sp.value_Check F) := by
  intro a s γ K q h
  unfold P_value_Check at h
  split at h
  · exact body_ok (tab_nil _) rfl ((e_value_Check p  _ _ _ _ _).trans h)
  · exact hF _ _ _ _ _ h
abbrev Ty_value_Text : Type 1 := ByteArray → (γ : Type) → (Int → Int → ByteArray → Option γ) → Option γ
def P_value_Text (X : Ty_value_Text) (F : Ent3) : Ent3 := fun a s γ K => match a, s with
  | [AVal.dat (Dat.str v_s)], [] => X v_s γ (fun r0 r1 r2 => K ([(AVal.agg [(Dat.int IntKind.i64 r0, Own.none), (Dat.int IntKind.i64 r1, Own.none), (Dat.str r2, Own.none)], Own.none)], []))
  | a, s => F a s γ K
def T_value_Text  : CallK := noneK
def L_value_Text  : LoopK := noneL
def Sp.B_value_Text  (v_s : ByteArray) (γ : Type) (K : Int → Int → ByteArray → Option γ) : Option γ := K 3 0 v_s
theorem e_value_Text (p : Par)  (v_s : ByteArray) (γ : Type) (K : List Ent × Sig → Option γ) : evFK (cfg p) (T_value_Text ) (L_value_Text ) 15 [AVal.dat (Dat.str v_s)] [] γ K = Sp.B_value_Text  v_s γ (fun r0 r1 r2 => K ([(AVal.agg [(Dat.int IntKind.i64 r0, Own.none), (Dat.int IntKind.i64 r1, Own.none), (Dat.str r2, Own.none)], Own.none)], [])) := by kernel_rfl
def Sp.value_Text : Ty_value_Text := Sp.B_value_Text 
theorem E_value_Text (p : Par) {F : Ent3} (hF : EntOk (cfg p) 15 F) : EntOk (cfg p) 15 (P_value_Text Sp.value_Text F) := by
  intro a s γ K q h
  unfold P_value_Text at h
  split at h
  · exact body_ok (tab_nil _) rfl ((e_value_Text p  _ _ _).trans h)
  · exact hF _ _ _ _ _ h
abbrev Ty_cmp_isNaN_int : Type 1 := Int → (γ : Type) → (Bool → Option γ) → Option γ
def P_cmp_isNaN_int (X : Ty_cmp_isNaN_int) (F : Ent3) : Ent3 := fun a s γ K => match a, s with
  | [AVal.dat (Dat.int IntKind.i64 v_x)], [] => X v_x γ (fun r0 => K ([(AVal.dat (Dat.bool r0), Own.none)], []))
  | a, s => F a s γ K
def T_cmp_isNaN_int  : CallK := noneK
def L_cmp_isNaN_int  : LoopK := noneL
def Sp.B_cmp_isNaN_int  (v_x : Int) (γ : Type) (K : Bool → Option γ) : Option γ := K !decide (v_x = v_x)
theorem e_cmp_isNaN_int (p : Par)  (v_x : Int) (γ : Type) (K : List Ent × Sig → Option γ) : evFK (cfg p) (T_cmp_isNaN_int ) (L_cmp_isNaN_int ) 44 [AVal.dat (Dat.int IntKind.i64 v_x)] [] γ K = Sp.B_cmp_isNaN_int  v_x γ (fun r0 => K ([(AVal.dat (Dat.bool r0), Own.none)], [])) := by kernel_rfl
def Sp.cmp_isNaN_int : Ty_cmp_isNaN_int := Sp.B_cmp_isNaN_int 
theorem E_cmp_isNaN_int (p : Par) {F : Ent3} (hF : EntOk (cfg p) 44 F) : EntOk (cfg p) 44 (P_cmp_isNaN_int Sp.cmp_isNaN_int F) := by
  intro a s γ K q h
  unfold P_cmp_isNaN_int at h
  split at h
  · exact body_ok (tab_nil _) rfl ((e_cmp_isNaN_int p  _ _ _).trans h)
  · exact hF _ _ _ _ _ h
abbrev Ty_cmp_Compare_int : Type 1 := Int → Int → (γ : Type) → (Int → Option γ) → Option γ
def P_cmp_Compare_int (X : Ty_cmp_Compare_int) (F : Ent3) : Ent3 := fun a s γ K => match a, s with
  | [AVal.dat (Dat.int IntKind.i64 v_x), AVal.dat (Dat.int IntKind.i64 v_y)], [] => X v_x v_y γ (fun r0 => K ([(AVal.dat (Dat.int IntKind.i64 r0), Own.none)], []))
  | a, s => F a s γ K
def T_cmp_Compare_int (x_cmp_isNaN_int : Ty_cmp_isNaN_int) : CallK := (addK noneK 44 (P_cmp_isNaN_int x_cmp_isNaN_int none3))
def L_cmp_Compare_int (x_cmp_isNaN_int : Ty_cmp_isNaN_int) : LoopK := noneL
def Sp.B_cmp_Compare_int (x_cmp_isNaN_int : Ty_cmp_isNaN_int) (v_x : Int) (v_y : Int) (γ : Type) (K : Int → Option γ) : Option γ := x_cmp_isNaN_int v_x γ fun (z4 : Bool) => x_cmp_isNaN_int v_y γ fun (z5 : Bool) => bif z4 then bif z5 then K 0 else K (-1) else bif z5 then K 1 else bif decide (v_x < v_y) then K (-1) else bif decide (v_y < v_x) then K 1 else K 0
theorem e_cmp_Compare_int (p : Par) (x_cmp_isNaN_int : Ty_cmp_isNaN_int) (v_x : Int) (v_y : Int) (γ : Type) (K : List Ent × Sig → Option γ) : evFK (cfg p) (T_cmp_Compare_int x_cmp_isNaN_int) (L_cmp_Compare_int x_cmp_isNaN_int) 35 [AVal.dat (Dat.int IntKind.i64 v_x), AVal.dat (Dat.int IntKind.i64 v_y)] [] γ K = Sp.B_cmp_Compare_int x_cmp_isNaN_int v_x v_y γ (fun r0 => K ([(AVal.dat (Dat.int IntKind.i64 r0), Own.none)], [])) := by kernel_rfl
def Sp.cmp_Compare_int : Ty_cmp_Compare_int := Sp.B_cmp_Compare_int Sp.cmp_isNaN_int
theorem E_cmp_Compare_int (p : Par) {F : Ent3} (hF : EntOk (cfg p) 35 F) : EntOk (cfg p) 35 (P_cmp_Compare_int Sp.cmp_Compare_int F) := by
  intro a s γ K q h
  unfold P_cmp_Compare_int at h
  split at h
  · exact body_ok (tab_call (tab_nil _) (E_cmp_isNaN_int p (ent_none _ _))) rfl ((e_cmp_Compare_int p _ _ _ _ _).trans h)
  · exact hF _ _ _ _ _ h
abbrev Ty_cmp_isNaN_string : Type 1 := ByteArray → (γ : Type) → (Bool → Option γ) → Option γ
def P_cmp_isNaN_string (X : Ty_cmp_isNaN_string) (F : Ent3) : Ent3 := fun a s γ K => match a, s with
  | [AVal.dat (Dat.str v_x)], [] => X v_x γ (fun r0 => K ([(AVal.dat (Dat.bool r0), Own.none)], []))
  | a, s => F a s γ K
def T_cmp_isNaN_string  : CallK := noneK
def L_cmp_isNaN_string  : LoopK := noneL
def Sp.B_cmp_isNaN_string  (v_x : ByteArray) (γ : Type) (K : Bool → Option γ) : Option γ := K !decide (v_x = v_x)
theorem e_cmp_isNaN_string (p : Par)  (v_x : ByteArray) (γ : Type) (K : List Ent × Sig → Option γ) : evFK (cfg p) (T_cmp_isNaN_string ) (L_cmp_isNaN_string ) 45 [AVal.dat (Dat.str v_x)] [] γ K = Sp.B_cmp_isNaN_string  v_x γ (fun r0 => K ([(AVal.dat (Dat.bool r0), Own.none)], [])) := by kernel_rfl
def Sp.cmp_isNaN_string : Ty_cmp_isNaN_string := Sp.B_cmp_isNaN_string 
theorem E_cmp_isNaN_string (p : Par) {F : Ent3} (hF : EntOk (cfg p) 45 F) : EntOk (cfg p) 45 (P_cmp_isNaN_string Sp.cmp_isNaN_string F) := by
  intro a s γ K q h
  unfold P_cmp_isNaN_string at h
  split at h
  · exact body_ok (tab_nil _) rfl ((e_cmp_isNaN_string p  _ _ _).trans h)
  · exact hF _ _ _ _ _ h
abbrev Ty_cmp_Compare_string : Type 1 := ByteArray → ByteArray → (γ : Type) → (Int → Option γ) → Option γ
def P_cmp_Compare_string (X : Ty_cmp_Compare_string) (F : Ent3) : Ent3 := fun a s γ K => match a, s with
  | [AVal.dat (Dat.str v_x), AVal.dat (Dat.str v_y)], [] => X v_x v_y γ (fun r0 => K ([(AVal.dat (Dat.int IntKind.i64 r0), Own.none)], []))
  | a, s => F a s γ K
def T_cmp_Compare_string (x_cmp_isNaN_string : Ty_cmp_isNaN_string) : CallK := (addK noneK 45 (P_cmp_isNaN_string x_cmp_isNaN_string none3))
def L_cmp_Compare_string (x_cmp_isNaN_string : Ty_cmp_isNaN_string) : LoopK := noneL
def Sp.B_cmp_Compare_string (x_cmp_isNaN_string : Ty_cmp_isNaN_string) (v_x : ByteArray) (v_y : ByteArray) (γ : Type) (K : Int → Option γ) : Option γ := x_cmp_isNaN_string v_x γ fun (z4 : Bool) => x_cmp_isNaN_string v_y γ fun (z5 : Bool) => bif z4 then bif z5 then K 0 else K (-1) else bif z5 then K 1 else bif Op.bytesLess (ByteArray.data v_x).1 (ByteArray.data v_y).1 then K (-1) else bif !(Op.bytesLess (ByteArray.data v_x).1 (ByteArray.data v_y).1 || decide (v_x = v_y)) then K 1 else K 0
theorem e_cmp_Compare_string (p : Par) (x_cmp_isNaN_string : Ty_cmp_isNaN_string) (v_x : ByteArray) (v_y : ByteArray) (γ : Type) (K : List Ent × Sig → Option γ) : evFK (cfg p) (T_cmp_Compare_string x_cmp_isNaN_string) (L_cmp_Compare_string x_cmp_isNaN_string) 36 [AVal.dat (Dat.str v_x), AVal.dat (Dat.str v_y)] [] γ K = Sp.B_cmp_Compare_string x_cmp_isNaN_string v_x v_y γ (fun r0 => K ([(AVal.dat (Dat.int IntKind.i64 r0), Own.none)], [])) := by kernel_rfl
def Sp.cmp_Compare_string : Ty_cmp_Compare_string := Sp.B_cmp_Compare_string Sp.cmp_isNaN_string
theorem E_cmp_Compare_string (p : Par) {F : Ent3} (hF : EntOk (cfg p) 36 F) : EntOk (cfg p) 36 (P_cmp_Compare_string Sp.cmp_Compare_string F) := by
  intro a s γ K q h
  unfold P_cmp_Compare_string at h
  split at h
  · exact body_ok (tab_call (tab_nil _) (E_cmp_isNaN_string p (ent_none _ _))) rfl ((e_cmp_Compare_string p _ _ _ _ _).trans h)
  · exact hF _ _ _ _ _ h
abbrev Ty_cmp_Or_int_L0 : Type 1 := Int → List (List Dat) → Int → Int → Int → (γ : Type) → (Ex → Int → Int → Option γ) → Option γ
def P_cmp_Or_int_L0 (X : Ty_cmp_Or_int_L0) (F : Loop3) : Loop3 := fun a s γ K => match a, s with
  | [AVal.dat (Dat.int IntKind.i64 v_zero), AVal.dat (Dat.sl v_), AVal.dat (Dat.int IntKind.i64 v__1)], ([AVal.dat (Dat.int IntKind.i64 v__2), AVal.dat (Dat.int IntKind.i64 v__3)], []) => X v_zero v_ v__1 v__2 v__3 γ (fun e x0 x1 => K (e, ([AVal.dat (Dat.int IntKind.i64 x0), AVal.dat (Dat.int IntKind.i64 x1)], [])))
  | a, s => F a s γ K
def T_cmp_Or_int_L0  : CallK := noneK
def L_cmp_Or_int_L0  : LoopK := noneL
def Sp.B_cmp_Or_int_L0 (x_cmp_Or_int_L0 : Ty_cmp_Or_int_L0)  (v_zero : Int) (v_ : List (List Dat)) (v__1 : Int) (v__2 : Int) (v__3 : Int) (γ : Type) (K : Ex → Int → Int → Option γ) : Option γ := bif decide (v__3 < v__1) then elemAt v_ v__3 fun (z7 : List Dat) => bif List.length z7 == 1 then cellAt z7 0 fun (z8 : Dat) => Aev.asInt IntKind.i64 z8 fun (z9 : Int) => bif !decide (z9 = v_zero) then K Ex.ret z9 v__3 else x_cmp_Or_int_L0 v_zero v_ v__1 v__2 (IntKind.wrap IntKind.i64 (v__3 + 1)) γ K else none else K (Ex.exit 0) v__2 v__3
theorem e_cmp_Or_int_L0 (p : Par) (x_cmp_Or_int_L0 : Ty_cmp_Or_int_L0)  (v_zero : Int) (v_ : List (List Dat)) (v__1 : Int) (v__2 : Int) (v__3 : Int) (γ : Type) (K : Ex × Vars → Option γ) : roundK (cfg p) (T_cmp_Or_int_L0 ) (L_cmp_Or_int_L0 ) 34 0 [AVal.dat (Dat.int IntKind.i64 v_zero), AVal.dat (Dat.sl v_), AVal.dat (Dat.int IntKind.i64 v__1)] ([AVal.dat (Dat.int IntKind.i64 v__2), AVal.dat (Dat.int IntKind.i64 v__3)], []) γ (contL (fun v => P_cmp_Or_int_L0 x_cmp_Or_int_L0 noneL3 [AVal.dat (Dat.int IntKind.i64 v_zero), AVal.dat (Dat.sl v_), AVal.dat (Dat.int IntKind.i64 v__1)] v γ K) K) = Sp.B_cmp_Or_int_L0 x_cmp_Or_int_L0  v_zero v_ v__1 v__2 v__3 γ (fun e x0 x1 => K (e, ([AVal.dat (Dat.int IntKind.i64 x0), AVal.dat (Dat.int IntKind.i64 x1)], []))) := by kernel_rfl
def Sp.cmp_Or_int_L0 : Nat → Ty_cmp_Or_int_L0
  | 0 => fun _ _ _ _ _ _ _ => none
  | n + 1 => Sp.B_cmp_Or_int_L0 (Sp.cmp_Or_int_L0 n) 
theorem E0_cmp_Or_int_L0 (p : Par)   : ∀ n, EntOkL (cfg p) 34 0 (P_cmp_Or_int_L0 (Sp.cmp_Or_int_L0  n) noneL3) := entL_rounds (tab_nil _) (by kernel_rfl) (fun c v γ K => by unfold P_cmp_Or_int_L0; split <;> rfl) fun n c v γ K q h => by
  unfold P_cmp_Or_int_L0 at h
  split at h
  · exact (e_cmp_Or_int_L0 p _  _ _ _ _ _ _ _).trans h
  · cases h
theorem E_cmp_Or_int_L0 (p : Par)   (n : Nat) {F : Loop3} (hF : EntOkL (cfg p) 34 0 F) : EntOkL (cfg p) 34 0 (P_cmp_Or_int_L0 (Sp.cmp_Or_int_L0  n) F) := by
  intro c v γ K q h
  unfold P_cmp_Or_int_L0 at h
  split at h
  · exact E0_cmp_Or_int_L0 p   n _ _ _ _ _ h
  · exact hF _ _ _ _ _ h
abbrev Ty_cmp_Or_int : Type 1 := List (List Dat) → (γ : Type) → (Int → Option γ) → Option γ
def P_cmp_Or_int (X : Ty_cmp_Or_int) (F : Ent3) : Ent3 := fun a s γ K => match a, s with
  | [AVal.dat (Dat.sl v_vals)], [] => X v_vals γ (fun r0 => K ([(AVal.dat (Dat.int IntKind.i64 r0), Own.none)], []))
  | a, s => F a s γ K
def T_cmp_Or_int (x_cmp_Or_int_L0 : Ty_cmp_Or_int_L0) : CallK := noneK
def L_cmp_Or_int (x_cmp_Or_int_L0 : Ty_cmp_Or_int_L0) : LoopK := (addL noneL 34 0 (P_cmp_Or_int_L0 x_cmp_Or_int_L0 noneL3))
def Sp.B_cmp_Or_int (x_cmp_Or_int_L0 : Ty_cmp_Or_int_L0) (v_vals : List (List Dat)) (γ : Type) (K : Int → Option γ) : Option γ := x_cmp_Or_int_L0 0 v_vals (Int.ofNat (List.length v_vals)) 0 0 γ fun (z3 : Ex) (z4 z5 : Int) => bif Ex.isExit z3 0 then K 0 else bif Ex.isRet z3 then K z4 else none
theorem e_cmp_Or_int (p : Par) (x_cmp_Or_int_L0 : Ty_cmp_Or_int_L0) (v_vals : List (List Dat)) (γ : Type) (K : List Ent × Sig → Option γ) : evFK (cfg p) (T_cmp_Or_int x_cmp_Or_int_L0) (L_cmp_Or_int x_cmp_Or_int_L0) 34 [AVal.dat (Dat.sl v_vals)] [] γ K = Sp.B_cmp_Or_int x_cmp_Or_int_L0 v_vals γ (fun r0 => K ([(AVal.dat (Dat.int IntKind.i64 r0), Own.none)], [])) := by kernel_rfl
def Sp.cmp_Or_int : Ty_cmp_Or_int := Sp.B_cmp_Or_int (Sp.cmp_Or_int_L0 fuel)
theorem E_cmp_Or_int (p : Par) {F : Ent3} (hF : EntOk (cfg p) 34 F) : EntOk (cfg p) 34 (P_cmp_Or_int Sp.cmp_Or_int F) := by
  intro a s γ K q h
  unfold P_cmp_Or_int at h
  split at h
  · exact body_ok (tab_loop (tab_nil _) (E_cmp_Or_int_L0 p fuel (entL_none _ _ _))) rfl ((e_cmp_Or_int p _ _ _ _).trans h)
  · exact hF _ _ _ _ _ h
abbrev Ty_value_Compare : Type 1 := Int → Int → ByteArray → Int → Int → ByteArray → (γ : Type) → (Int → Option γ) → Option γ
def P_value_Compare (X : Ty_value_Compare) (F : Ent3) : Ent3 := fun a s γ K => match a, s with
  | [AVal.agg [(Dat.int IntKind.i64 v_a0, Own.none), (Dat.int IntKind.i64 v_a1, Own.none), (Dat.str v_a2, Own.none)], AVal.agg [(Dat.int IntKind.i64 v_b0, Own.none), (Dat.int IntKind.i64 v_b1, Own.none), (Dat.str v_b2, Own.none)]], [] => X v_a0 v_a1 v_a2 v_b0 v_b1 v_b2 γ (fun r0 => K ([(AVal.dat (Dat.int IntKind.i64 r0), Own.none)], []))
  | a, s => F a s γ K
def T_value_Compare (x_cmp_Compare_int : Ty_cmp_Compare_int) (x_cmp_Compare_string : Ty_cmp_Compare_string) (x_cmp_Or_int : Ty_cmp_Or_int) : CallK := (addK (addK (addK noneK 35 (P_cmp_Compare_int x_cmp_Compare_int none3)) 36 (P_cmp_Compare_string x_cmp_Compare_string none3)) 34 (P_cmp_Or_int x_cmp_Or_int none3))
def L_value_Compare (x_cmp_Compare_int : Ty_cmp_Compare_int) (x_cmp_Compare_string : Ty_cmp_Compare_string) (x_cmp_Or_int : Ty_cmp_Or_int) : LoopK := noneL
def Sp.B_value_Compare (x_cmp_Compare_int : Ty_cmp_Compare_int) (x_cmp_Compare_string : Ty_cmp_Compare_string) (x_cmp_Or_int : Ty_cmp_Or_int) (v_a0 : Int) (v_a1 : Int) (v_a2 : ByteArray) (v_b0 : Int) (v_b1 : Int) (v_b2 : ByteArray) (γ : Type) (K : Int → Option γ) : Option γ := x_cmp_Compare_int v_a0 v_b0 γ fun (z8 : Int) => x_cmp_Compare_int v_a1 v_b1 γ fun (z9 : Int) => x_cmp_Compare_string v_a2 v_b2 γ fun (z10 : Int) => x_cmp_Or_int [[Dat.int IntKind.i64 z8], [Dat.int IntKind.i64 z9], [Dat.int IntKind.i64 z10]] γ fun (z11 : Int) => K z11
theorem e_value_Compare (p : Par) (x_cmp_Compare_int : Ty_cmp_Compare_int) (x_cmp_Compare_string : Ty_cmp_Compare_string) (x_cmp_Or_int : Ty_cmp_Or_int) (v_a0 : Int) (v_a1 : Int) (v_a2 : ByteArray) (v_b0 : Int) (v_b1 : Int) (v_b2 : ByteArray) (γ : Type) (K : List Ent × Sig → Option γ) : evFK (cfg p) (T_value_Compare x_cmp_Compare_int x_cmp_Compare_string x_cmp_Or_int) (L_value_Compare x_cmp_Compare_int x_cmp_Compare_string x_cmp_Or_int) 19 [AVal.agg [(Dat.int IntKind.i64 v_a0, Own.none), (Dat.int IntKind.i64 v_a1, Own.none), (Dat.str v_a2, Own.none)], AVal.agg [(Dat.int IntKind.i64 v_b0, Own.none), (Dat.int IntKind.i64 v_b1, Own.none), (Dat.str v_b2, Own.none)]] [] γ K = Sp.B_value_Compare x_cmp_Compare_int x_cmp_Compare_string x_cmp_Or_int v_a0 v_a1 v_a2 v_b0 v_b1 v_b2 γ (fun r0 => K ([(AVal.dat (Dat.int IntKind.i64 r0), Own.none)], [])) := by kernel_rfl
def Sp.value_Compare : Ty_value_Compare := Sp.B_value_Compare Sp.cmp_Compare_int Sp.cmp_Compare_string Sp.cmp_Or_int
theorem E_value_Compare (p : Par) {F : Ent3} (hF : EntOk (cfg p) 19 F) : EntOk (cfg p) 19 (P_value_Compare Sp.value_Compare F) := by
  intro a s γ K q h
  unfold P_value_Compare at h
  split at h
  · exact body_ok (tab_call (tab_call (tab_call (tab_nil _) (E_cmp_Compare_int p (ent_none _ _))) (E_cmp_Compare_string p (ent_none _ _))) (E_cmp_Or_int p (ent_none _ _))) rfl ((e_value_Compare p _ _ _ _ _ _ _ _ _ _ _).trans h)
  · exact hF _ _ _ _ _ h
abbrev Ty_value_known : Type 1 := Int → Int → ByteArray → Int → Int → ByteArray → (γ : Type) → (Bool → Option γ) → Option γ
def P_value_known (X : Ty_value_known) (F : Ent3) : Ent3 := fun a s γ K => match a, s with
  | [AVal.agg [(Dat.int IntKind.i64 v_a0, Own.none), (Dat.int IntKind.i64 v_a1, Own.none), (Dat.str v_a2, Own.none)], AVal.agg [(Dat.int IntKind.i64 v_b0, Own.none), (Dat.int IntKind.i64 v_b1, Own.none), (Dat.str v_b2, Own.none)]], [] => X v_a0 v_a1 v_a2 v_b0 v_b1 v_b2 γ (fun r0 => K ([(AVal.dat (Dat.bool r0), Own.none)], []))
  | a, s => F a s γ K
def T_value_known (x_value_Check : Ty_value_Check) : CallK := (addK noneK 9 (P_value_Check x_value_Check none3))
def L_value_known (x_value_Check : Ty_value_Check) : LoopK := noneL
def Sp.B_value_known (x_value_Check : Ty_value_Check) (v_a0 : Int) (v_a1 : Int) (v_a2 : ByteArray) (v_b0 : Int) (v_b1 : Int) (v_b2 : ByteArray) (γ : Type) (K : Bool → Option γ) : Option γ := bif decide (v_a0 = 0) then K false else bif !decide (v_b0 = 0) then x_value_Check v_a0 v_a1 v_a2 γ fun (z8 : Int) => bif decide (z8 = 0) then x_value_Check v_b0 v_b1 v_b2 γ fun (z9 : Int) => K (decide (z9 = 0)) else K false else K false
theorem e_value_known (p : Par) (x_value_Check : Ty_value_Check) (v_a0 : Int) (v_a1 : Int) (v_a2 : ByteArray) (v_b0 : Int) (v_b1 : Int) (v_b2 : ByteArray) (γ : Type) (K : List Ent × Sig → Option γ) : evFK (cfg p) (T_value_known x_value_Check) (L_value_known x_value_Check) 37 [AVal.agg [(Dat.int IntKind.i64 v_a0, Own.none), (Dat.int IntKind.i64 v_a1, Own.none), (Dat.str v_a2, Own.none)], AVal.agg [(Dat.int IntKind.i64 v_b0, Own.none), (Dat.int IntKind.i64 v_b1, Own.none), (Dat.str v_b2, Own.none)]] [] γ K = Sp.B_value_known x_value_Check v_a0 v_a1 v_a2 v_b0 v_b1 v_b2 γ (fun r0 => K ([(AVal.dat (Dat.bool r0), Own.none)], [])) := by kernel_rfl
def Sp.value_known : Ty_value_known := Sp.B_value_known Sp.value_Check
theorem E_value_known (p : Par) {F : Ent3} (hF : EntOk (cfg p) 37 F) : EntOk (cfg p) 37 (P_value_known Sp.value_known F) := by
  intro a s γ K q h
  unfold P_value_known at h
  split at h
  · exact body_ok (tab_call (tab_nil _) (E_value_Check p (ent_none _ _))) rfl ((e_value_known p _ _ _ _ _ _ _ _ _).trans h)
  · exact hF _ _ _ _ _ h
abbrev Ty_value_truth : Type 1 := Bool → (γ : Type) → (Int → Option γ) → Option γ
def P_value_truth (X : Ty_value_truth) (F : Ent3) : Ent3 := fun a s γ K => match a, s with
  | [AVal.dat (Dat.bool v_is)], [] => X v_is γ (fun r0 => K ([(AVal.dat (Dat.int IntKind.i64 r0), Own.none)], []))
  | a, s => F a s γ K
def T_value_truth  : CallK := noneK
def L_value_truth  : LoopK := noneL
def Sp.B_value_truth  (v_is : Bool) (γ : Type) (K : Int → Option γ) : Option γ := bif v_is then K 1 else K 0
theorem e_value_truth (p : Par)  (v_is : Bool) (γ : Type) (K : List Ent × Sig → Option γ) : evFK (cfg p) (T_value_truth ) (L_value_truth ) 38 [AVal.dat (Dat.bool v_is)] [] γ K = Sp.B_value_truth  v_is γ (fun r0 => K ([(AVal.dat (Dat.int IntKind.i64 r0), Own.none)], [])) := by kernel_rfl
def Sp.value_truth : Ty_value_truth := Sp.B_value_truth 
theorem E_value_truth (p : Par) {F : Ent3} (hF : EntOk (cfg p) 38 F) : EntOk (cfg p) 38 (P_value_truth Sp.value_truth F) := by
  intro a s γ K q h
  unfold P_value_truth at h
  split at h
  · exact body_ok (tab_nil _) rfl ((e_value_truth p  _ _ _).trans h)
  · exact hF _ _ _ _ _ h
abbrev Ty_value_Equal : Type 1 := Int → Int → ByteArray → Int → Int → ByteArray → (γ : Type) → (Int → Option γ) → Option γ
def P_value_Equal (X : Ty_value_Equal) (F : Ent3) : Ent3 := fun a s γ K => match a, s with
  | [AVal.agg [(Dat.int IntKind.i64 v_a0, Own.none), (Dat.int IntKind.i64 v_a1, Own.none), (Dat.str v_a2, Own.none)], AVal.agg [(Dat.int IntKind.i64 v_b0, Own.none), (Dat.int IntKind.i64 v_b1, Own.none), (Dat.str v_b2, Own.none)]], [] => X v_a0 v_a1 v_a2 v_b0 v_b1 v_b2 γ (fun r0 => K ([(AVal.dat (Dat.int IntKind.i64 r0), Own.none)], []))
  | a, s => F a s γ K
def T_value_Equal (x_value_known : Ty_value_known) (x_value_truth : Ty_value_truth) : CallK := (addK (addK noneK 37 (P_value_known x_value_known none3)) 38 (P_value_truth x_value_truth none3))
def L_value_Equal (x_value_known : Ty_value_known) (x_value_truth : Ty_value_truth) : LoopK := noneL
def Sp.B_value_Equal (x_value_known : Ty_value_known) (x_value_truth : Ty_value_truth) (v_a0 : Int) (v_a1 : Int) (v_a2 : ByteArray) (v_b0 : Int) (v_b1 : Int) (v_b2 : ByteArray) (γ : Type) (K : Int → Option γ) : Option γ := x_value_known v_a0 v_a1 v_a2 v_b0 v_b1 v_b2 γ fun (z8 : Bool) => bif !z8 then K 2 else x_value_truth (decide (v_a0 = v_b0) && (decide (v_a1 = v_b1) && (decide (v_a2 = v_b2) && true))) γ fun (z9 : Int) => K z9
theorem e_value_Equal (p : Par) (x_value_known : Ty_value_known) (x_value_truth : Ty_value_truth) (v_a0 : Int) (v_a1 : Int) (v_a2 : ByteArray) (v_b0 : Int) (v_b1 : Int) (v_b2 : ByteArray) (γ : Type) (K : List Ent × Sig → Option γ) : evFK (cfg p) (T_value_Equal x_value_known x_value_truth) (L_value_Equal x_value_known x_value_truth) 21 [AVal.agg [(Dat.int IntKind.i64 v_a0, Own.none), (Dat.int IntKind.i64 v_a1, Own.none), (Dat.str v_a2, Own.none)], AVal.agg [(Dat.int IntKind.i64 v_b0, Own.none), (Dat.int IntKind.i64 v_b1, Own.none), (Dat.str v_b2, Own.none)]] [] γ K = Sp.B_value_Equal x_value_known x_value_truth v_a0 v_a1 v_a2 v_b0 v_b1 v_b2 γ (fun r0 => K ([(AVal.dat (Dat.int IntKind.i64 r0), Own.none)], [])) := by kernel_rfl
def Sp.value_Equal : Ty_value_Equal := Sp.B_value_Equal Sp.value_known Sp.value_truth
theorem E_value_Equal (p : Par) {F : Ent3} (hF : EntOk (cfg p) 21 F) : EntOk (cfg p) 21 (P_value_Equal Sp.value_Equal F) := by
  intro a s γ K q h
  unfold P_value_Equal at h
  split at h
  · exact body_ok (tab_call (tab_call (tab_nil _) (E_value_known p (ent_none _ _))) (E_value_truth p (ent_none _ _))) rfl ((e_value_Equal p _ _ _ _ _ _ _ _ _ _).trans h)
  · exact hF _ _ _ _ _ h
abbrev Ty_value_Null : Type 1 := (γ : Type) → (Int → Int → ByteArray → Option γ) → Option γ
def P_value_Null (X : Ty_value_Null) (F : Ent3) : Ent3 := fun a s γ K => match a, s with
  | [], [] => X  γ (fun r0 r1 r2 => K ([(AVal.agg [(Dat.int IntKind.i64 r0, Own.none), (Dat.int IntKind.i64 r1, Own.none), (Dat.str r2, Own.none)], Own.none)], []))
  | a, s => F a s γ K
def T_value_Null  : CallK := noneK
def L_value_Null  : LoopK := noneL
def Sp.B_value_Null   (γ : Type) (K : Int → Int → ByteArray → Option γ) : Option γ := K 0 0 (bs [])
theorem e_value_Null (p : Par)   (γ : Type) (K : List Ent × Sig → Option γ) : evFK (cfg p) (T_value_Null ) (L_value_Null ) 10 [] [] γ K = Sp.B_value_Null   γ (fun r0 r1 r2 => K ([(AVal.agg [(Dat.int IntKind.i64 r0, Own.none), (Dat.int IntKind.i64 r1, Own.none), (Dat.str r2, Own.none)], Own.none)], [])) := by kernel_rfl
def Sp.value_Null : Ty_value_Null := Sp.B_value_Null 
theorem E_value_Null (p : Par) {F : Ent3} (hF : EntOk (cfg p) 10 F) : EntOk (cfg p) 10 (P_value_Null Sp.value_Null F) := by
  intro a s γ K q h
  unfold P_value_Null at h
  split at h
  · exact body_ok (tab_nil _) rfl ((e_value_Null p  _ _ ).trans h)
  · exact hF _ _ _ _ _ h
abbrev Ty_value_Less : Type 1 := Int → Int → ByteArray → Int → Int → ByteArray → (γ : Type) → (Int → Option γ) → Option γ
def P_value_Less (X : Ty_value_Less) (F : Ent3) : Ent3 := fun a s γ K => match a, s with
  | [AVal.agg [(Dat.int IntKind.i64 v_a0, Own.none), (Dat.int IntKind.i64 v_a1, Own.none), (Dat.str v_a2, Own.none)], AVal.agg [(Dat.int IntKind.i64 v_b0, Own.none), (Dat.int IntKind.i64 v_b1, Own.none), (Dat.str v_b2, Own.none)]], [] => X v_a0 v_a1 v_a2 v_b0 v_b1 v_b2 γ (fun r0 => K ([(AVal.dat (Dat.int IntKind.i64 r0), Own.none)], []))
  | a, s => F a s γ K
def T_value_Less (x_value_known : Ty_value_known) (x_value_Compare : Ty_value_Compare) (x_value_truth : Ty_value_truth) : CallK := (addK (addK (addK noneK 37 (P_value_known x_value_known none3)) 19 (P_value_Compare x_value_Compare none3)) 38 (P_value_truth x_value_truth none3))
def L_value_Less (x_value_known : Ty_value_known) (x_value_Compare : Ty_value_Compare) (x_value_truth : Ty_value_truth) : LoopK := noneL
def Sp.B_value_Less (x_value_known : Ty_value_known) (x_value_Compare : Ty_value_Compare) (x_value_truth : Ty_value_truth) (v_a0 : Int) (v_a1 : Int) (v_a2 : ByteArray) (v_b0 : Int) (v_b1 : Int) (v_b2 : ByteArray) (γ : Type) (K : Int → Option γ) : Option γ := x_value_known v_a0 v_a1 v_a2 v_b0 v_b1 v_b2 γ fun (z8 : Bool) => bif !z8 then K 2 else bif decide (v_a0 = v_b0) then x_value_Compare v_a0 v_a1 v_a2 v_b0 v_b1 v_b2 γ fun (z9 : Int) => x_value_truth (decide (z9 < 0)) γ fun (z10 : Int) => K z10 else x_value_truth false γ fun (z11 : Int) => K z11
theorem e_value_Less (p : Par) (x_value_known : Ty_value_known) (x_value_Compare : Ty_value_Compare) (x_value_truth : Ty_value_truth) (v_a0 : Int) (v_a1 : Int) (v_a2 : ByteArray) (v_b0 : Int) (v_b1 : Int) (v_b2 : ByteArray) (γ : Type) (K : List Ent × Sig → Option γ) : evFK (cfg p) (T_value_Less x_value_known x_value_Compare x_value_truth) (L_value_Less x_value_known x_value_Compare x_value_truth) 23 [AVal.agg [(Dat.int IntKind.i64 v_a0, Own.none), (Dat.int IntKind.i64 v_a1, Own.none), (Dat.str v_a2, Own.none)], AVal.agg [(Dat.int IntKind.i64 v_b0, Own.none), (Dat.int IntKind.i64 v_b1, Own.none), (Dat.str v_b2, Own.none)]] [] γ K = Sp.B_value_Less x_value_known x_value_Compare x_value_truth v_a0 v_a1 v_a2 v_b0 v_b1 v_b2 γ (fun r0 => K ([(AVal.dat (Dat.int IntKind.i64 r0), Own.none)], [])) := by kernel_rfl
def Sp.value_Less : Ty_value_Less := Sp.B_value_Less Sp.value_known Sp.value_Compare Sp.value_truth
theorem E_value_Less (p : Par) {F : Ent3} (hF : EntOk (cfg p) 23 F) : EntOk (cfg p) 23 (P_value_Less Sp.value_Less F) := by
  intro a s γ K q h
  unfold P_value_Less at h
  split at h
  · exact body_ok (tab_call (tab_call (tab_call (tab_nil _) (E_value_known p (ent_none _ _))) (E_value_Compare p (ent_none _ _))) (E_value_truth p (ent_none _ _))) rfl ((e_value_Less p _ _ _ _ _ _ _ _ _ _ _).trans h)
  · exact hF _ _ _ _ _ h
abbrev Ty_value_near : Type 1 := Int → (γ : Type) → (Int → Option γ) → Option γ
def P_value_near (X : Ty_value_near) (F : Ent3) : Ent3 := fun a s γ K => match a, s with
  | [AVal.dat (Dat.int IntKind.i64 v_a)], [] => X v_a γ (fun r0 => K ([(AVal.dat (Dat.int IntKind.i64 r0), Own.none)], []))
  | a, s => F a s γ K
def T_value_near  : CallK := noneK
def L_value_near  : LoopK := noneL
def Sp.B_value_near  (v_a : Int) (γ : Type) (K : Int → Option γ) : Option γ := bif decide (v_a < 0) then K 2 else bif decide (2 < v_a) then K 2 else K v_a
theorem e_value_near (p : Par)  (v_a : Int) (γ : Type) (K : List Ent × Sig → Option γ) : evFK (cfg p) (T_value_near ) (L_value_near ) 41 [AVal.dat (Dat.int IntKind.i64 v_a)] [] γ K = Sp.B_value_near  v_a γ (fun r0 => K ([(AVal.dat (Dat.int IntKind.i64 r0), Own.none)], [])) := by kernel_rfl
def Sp.value_near : Ty_value_near := Sp.B_value_near 
theorem E_value_near (p : Par) {F : Ent3} (hF : EntOk (cfg p) 41 F) : EntOk (cfg p) 41 (P_value_near Sp.value_near F) := by
  intro a s γ K q h
  unfold P_value_near at h
  split at h
  · exact body_ok (tab_nil _) rfl ((e_value_near p  _ _ _).trans h)
  · exact hF _ _ _ _ _ h
abbrev Ty_value_And : Type 1 := Int → Int → (γ : Type) → (Int → Option γ) → Option γ
def P_value_And (X : Ty_value_And) (F : Ent3) : Ent3 := fun a s γ K => match a, s with
  | [AVal.dat (Dat.int IntKind.i64 v_a), AVal.dat (Dat.int IntKind.i64 v_b)], [] => X v_a v_b γ (fun r0 => K ([(AVal.dat (Dat.int IntKind.i64 r0), Own.none)], []))
  | a, s => F a s γ K
def T_value_And (x_value_near : Ty_value_near) : CallK := (addK noneK 41 (P_value_near x_value_near none3))
def L_value_And (x_value_near : Ty_value_near) : LoopK := noneL
def Sp.B_value_And (x_value_near : Ty_value_near) (v_a : Int) (v_b : Int) (γ : Type) (K : Int → Option γ) : Option γ := x_value_near v_a γ fun (z4 : Int) => x_value_near v_b γ fun (z5 : Int) => bif decide (0 ≤ z4) && decide (z4 < 3) then bif decide (0 ≤ z5) && decide (z5 < 3) then cellAt (List.drop (Int.toNat z5 * 1) (List.drop (Int.toNat z4 * 3) [Dat.int IntKind.i64 0, Dat.int IntKind.i64 0, Dat.int IntKind.i64 0, Dat.int IntKind.i64 0, Dat.int IntKind.i64 1, Dat.int IntKind.i64 2, Dat.int IntKind.i64 0, Dat.int IntKind.i64 2, Dat.int IntKind.i64 2])) 0 fun (z6 : Dat) => Aev.asInt IntKind.i64 z6 fun (z7 : Int) => K z7 else none else none
theorem e_value_And (p : Par) (x_value_near : Ty_value_near) (v_a : Int) (v_b : Int) (γ : Type) (K : List Ent × Sig → Option γ) : evFK (cfg p) (T_value_And x_value_near) (L_value_And x_value_near) 28 [AVal.dat (Dat.int IntKind.i64 v_a), AVal.dat (Dat.int IntKind.i64 v_b)] [] γ K = Sp.B_value_And x_value_near v_a v_b γ (fun r0 => K ([(AVal.dat (Dat.int IntKind.i64 r0), Own.none)], [])) := by kernel_rfl
def Sp.value_And : Ty_value_And := Sp.B_value_And Sp.value_near
theorem E_value_And (p : Par) {F : Ent3} (hF : EntOk (cfg p) 28 F) : EntOk (cfg p) 28 (P_value_And Sp.value_And F) := by
  intro a s γ K q h
  unfold P_value_And at h
  split at h
  · exact body_ok (tab_call (tab_nil _) (E_value_near p (ent_none _ _))) rfl ((e_value_And p _ _ _ _ _).trans h)
  · exact hF _ _ _ _ _ h
abbrev Ty_value_Not : Type 1 := Int → (γ : Type) → (Int → Option γ) → Option γ
def P_value_Not (X : Ty_value_Not) (F : Ent3) : Ent3 := fun a s γ K => match a, s with
  | [AVal.dat (Dat.int IntKind.i64 v_a)], [] => X v_a γ (fun r0 => K ([(AVal.dat (Dat.int IntKind.i64 r0), Own.none)], []))
  | a, s => F a s γ K
def T_value_Not (x_value_near : Ty_value_near) : CallK := (addK noneK 41 (P_value_near x_value_near none3))
def L_value_Not (x_value_near : Ty_value_near) : LoopK := noneL
def Sp.B_value_Not (x_value_near : Ty_value_near) (v_a : Int) (γ : Type) (K : Int → Option γ) : Option γ := x_value_near v_a γ fun (z3 : Int) => bif decide (0 ≤ z3) && decide (z3 < 3) then cellAt (List.drop (Int.toNat z3 * 1) [Dat.int IntKind.i64 1, Dat.int IntKind.i64 0, Dat.int IntKind.i64 2]) 0 fun (z4 : Dat) => Aev.asInt IntKind.i64 z4 fun (z5 : Int) => K z5 else none
theorem e_value_Not (p : Par) (x_value_near : Ty_value_near) (v_a : Int) (γ : Type) (K : List Ent × Sig → Option γ) : evFK (cfg p) (T_value_Not x_value_near) (L_value_Not x_value_near) 27 [AVal.dat (Dat.int IntKind.i64 v_a)] [] γ K = Sp.B_value_Not x_value_near v_a γ (fun r0 => K ([(AVal.dat (Dat.int IntKind.i64 r0), Own.none)], [])) := by kernel_rfl
def Sp.value_Not : Ty_value_Not := Sp.B_value_Not Sp.value_near
theorem E_value_Not (p : Par) {F : Ent3} (hF : EntOk (cfg p) 27 F) : EntOk (cfg p) 27 (P_value_Not Sp.value_Not F) := by
  intro a s γ K q h
  unfold P_value_Not at h
  split at h
  · exact body_ok (tab_call (tab_nil _) (E_value_near p (ent_none _ _))) rfl ((e_value_Not p _ _ _ _).trans h)
  · exact hF _ _ _ _ _ h
abbrev Ty_value_Or : Type 1 := Int → Int → (γ : Type) → (Int → Option γ) → Option γ
def P_value_Or (X : Ty_value_Or) (F : Ent3) : Ent3 := fun a s γ K => match a, s with
  | [AVal.dat (Dat.int IntKind.i64 v_a), AVal.dat (Dat.int IntKind.i64 v_b)], [] => X v_a v_b γ (fun r0 => K ([(AVal.dat (Dat.int IntKind.i64 r0), Own.none)], []))
  | a, s => F a s γ K
def T_value_Or (x_value_Not : Ty_value_Not) (x_value_And : Ty_value_And) : CallK := (addK (addK noneK 27 (P_value_Not x_value_Not none3)) 28 (P_value_And x_value_And none3))
def L_value_Or (x_value_Not : Ty_value_Not) (x_value_And : Ty_value_And) : LoopK := noneL
def Sp.B_value_Or (x_value_Not : Ty_value_Not) (x_value_And : Ty_value_And) (v_a : Int) (v_b : Int) (γ : Type) (K : Int → Option γ) : Option γ := x_value_Not v_a γ fun (z4 : Int) => x_value_Not v_b γ fun (z5 : Int) => x_value_And z4 z5 γ fun (z6 : Int) => x_value_Not z6 γ fun (z7 : Int) => K z7
theorem e_value_Or (p : Par) (x_value_Not : Ty_value_Not) (x_value_And : Ty_value_And) (v_a : Int) (v_b : Int) (γ : Type) (K : List Ent × Sig → Option γ) : evFK (cfg p) (T_value_Or x_value_Not x_value_And) (L_value_Or x_value_Not x_value_And) 29 [AVal.dat (Dat.int IntKind.i64 v_a), AVal.dat (Dat.int IntKind.i64 v_b)] [] γ K = Sp.B_value_Or x_value_Not x_value_And v_a v_b γ (fun r0 => K ([(AVal.dat (Dat.int IntKind.i64 r0), Own.none)], [])) := by kernel_rfl
def Sp.value_Or : Ty_value_Or := Sp.B_value_Or Sp.value_Not Sp.value_And
theorem E_value_Or (p : Par) {F : Ent3} (hF : EntOk (cfg p) 29 F) : EntOk (cfg p) 29 (P_value_Or Sp.value_Or F) := by
  intro a s γ K q h
  unfold P_value_Or at h
  split at h
  · exact body_ok (tab_call (tab_call (tab_nil _) (E_value_Not p (ent_none _ _))) (E_value_And p (ent_none _ _))) rfl ((e_value_Or p _ _ _ _ _ _).trans h)
  · exact hF _ _ _ _ _ h
abbrev Ty_value_Bool : Type 1 := Bool → (γ : Type) → (Int → Int → ByteArray → Option γ) → Option γ
def P_value_Bool (X : Ty_value_Bool) (F : Ent3) : Ent3 := fun a s γ K => match a, s with
  | [AVal.dat (Dat.bool v_is)], [] => X v_is γ (fun r0 r1 r2 => K ([(AVal.agg [(Dat.int IntKind.i64 r0, Own.none), (Dat.int IntKind.i64 r1, Own.none), (Dat.str r2, Own.none)], Own.none)], []))
  | a, s => F a s γ K
def T_value_Bool  : CallK := noneK
def L_value_Bool  : LoopK := noneL
def Sp.B_value_Bool  (v_is : Bool) (γ : Type) (K : Int → Int → ByteArray → Option γ) : Option γ := bif v_is then K 1 1 (bs []) else K 1 0 (bs [])
theorem e_value_Bool (p : Par)  (v_is : Bool) (γ : Type) (K : List Ent × Sig → Option γ) : evFK (cfg p) (T_value_Bool ) (L_value_Bool ) 11 [AVal.dat (Dat.bool v_is)] [] γ K = Sp.B_value_Bool  v_is γ (fun r0 r1 r2 => K ([(AVal.agg [(Dat.int IntKind.i64 r0, Own.none), (Dat.int IntKind.i64 r1, Own.none), (Dat.str r2, Own.none)], Own.none)], [])) := by kernel_rfl
def Sp.value_Bool : Ty_value_Bool := Sp.B_value_Bool 
theorem E_value_Bool (p : Par) {F : Ent3} (hF : EntOk (cfg p) 11 F) : EntOk (cfg p) 11 (P_value_Bool Sp.value_Bool F) := by
  intro a s γ K q h
  unfold P_value_Bool at h
  split at h
  · exact body_ok (tab_nil _) rfl ((e_value_Bool p  _ _ _).trans h)
  · exact hF _ _ _ _ _ h
abbrev Ty_value_Truth : Type 1 := Int → Int → ByteArray → (γ : Type) → (Int → Option γ) → Option γ
def P_value_Truth (X : Ty_value_Truth) (F : Ent3) : Ent3 := fun a s γ K => match a, s with
  | [AVal.agg [(Dat.int IntKind.i64 v_v0, Own.none), (Dat.int IntKind.i64 v_v1, Own.none), (Dat.str v_v2, Own.none)]], [] => X v_v0 v_v1 v_v2 γ (fun r0 => K ([(AVal.dat (Dat.int IntKind.i64 r0), Own.none)], []))
  | a, s => F a s γ K
def T_value_Truth (x_value_Check : Ty_value_Check) : CallK := (addK noneK 9 (P_value_Check x_value_Check none3))
def L_value_Truth (x_value_Check : Ty_value_Check) : LoopK := noneL
def Sp.B_value_Truth (x_value_Check : Ty_value_Check) (v_v0 : Int) (v_v1 : Int) (v_v2 : ByteArray) (γ : Type) (K : Int → Option γ) : Option γ := bif !decide (v_v0 = 1) then K 2 else x_value_Check v_v0 v_v1 v_v2 γ fun (z5 : Int) => bif !decide (z5 = 0) then K 2 else K v_v1
theorem e_value_Truth (p : Par) (x_value_Check : Ty_value_Check) (v_v0 : Int) (v_v1 : Int) (v_v2 : ByteArray) (γ : Type) (K : List Ent × Sig → Option γ) : evFK (cfg p) (T_value_Truth x_value_Check) (L_value_Truth x_value_Check) 25 [AVal.agg [(Dat.int IntKind.i64 v_v0, Own.none), (Dat.int IntKind.i64 v_v1, Own.none), (Dat.str v_v2, Own.none)]] [] γ K = Sp.B_value_Truth x_value_Check v_v0 v_v1 v_v2 γ (fun r0 => K ([(AVal.dat (Dat.int IntKind.i64 r0), Own.none)], [])) := by kernel_rfl
def Sp.value_Truth : Ty_value_Truth := Sp.B_value_Truth Sp.value_Check
theorem E_value_Truth (p : Par) {F : Ent3} (hF : EntOk (cfg p) 25 F) : EntOk (cfg p) 25 (P_value_Truth Sp.value_Truth F) := by
  intro a s γ K q h
  unfold P_value_Truth at h
  split at h
  · exact body_ok (tab_call (tab_nil _) (E_value_Check p (ent_none _ _))) rfl ((e_value_Truth p _ _ _ _ _ _).trans h)
  · exact hF _ _ _ _ _ h
abbrev Ty_value_Of : Type 1 := Int → (γ : Type) → (Int → Int → ByteArray → Option γ) → Option γ
def P_value_Of (X : Ty_value_Of) (F : Ent3) : Ent3 := fun a s γ K => match a, s with
  | [AVal.dat (Dat.int IntKind.i64 v_t)], [] => X v_t γ (fun r0 r1 r2 => K ([(AVal.agg [(Dat.int IntKind.i64 r0, Own.none), (Dat.int IntKind.i64 r1, Own.none), (Dat.str r2, Own.none)], Own.none)], []))
  | a, s => F a s γ K
def T_value_Of (x_value_near : Ty_value_near) (x_value_Null : Ty_value_Null) (x_value_Bool : Ty_value_Bool) : CallK := (addK (addK (addK noneK 41 (P_value_near x_value_near none3)) 10 (P_value_Null x_value_Null none3)) 11 (P_value_Bool x_value_Bool none3))
def L_value_Of (x_value_near : Ty_value_near) (x_value_Null : Ty_value_Null) (x_value_Bool : Ty_value_Bool) : LoopK := noneL
def Sp.B_value_Of (x_value_near : Ty_value_near) (x_value_Null : Ty_value_Null) (x_value_Bool : Ty_value_Bool) (v_t : Int) (γ : Type) (K : Int → Int → ByteArray → Option γ) : Option γ := x_value_near v_t γ fun (z3 : Int) => bif decide (z3 = 2) then x_value_Null γ fun (z4 z5 : Int) (z6 : ByteArray) => K z4 z5 z6 else x_value_Bool (decide (v_t = 1)) γ fun (z7 z8 : Int) (z9 : ByteArray) => K z7 z8 z9
theorem e_value_Of (p : Par) (x_value_near : Ty_value_near) (x_value_Null : Ty_value_Null) (x_value_Bool : Ty_value_Bool) (v_t : Int) (γ : Type) (K : List Ent × Sig → Option γ) : evFK (cfg p) (T_value_Of x_value_near x_value_Null x_value_Bool) (L_value_Of x_value_near x_value_Null x_value_Bool) 30 [AVal.dat (Dat.int IntKind.i64 v_t)] [] γ K = Sp.B_value_Of x_value_near x_value_Null x_value_Bool v_t γ (fun r0 r1 r2 => K ([(AVal.agg [(Dat.int IntKind.i64 r0, Own.none), (Dat.int IntKind.i64 r1, Own.none), (Dat.str r2, Own.none)], Own.none)], [])) := by kernel_rfl
def Sp.value_Of : Ty_value_Of := Sp.B_value_Of Sp.value_near Sp.value_Null Sp.value_Bool
theorem E_value_Of (p : Par) {F : Ent3} (hF : EntOk (cfg p) 30 F) : EntOk (cfg p) 30 (P_value_Of Sp.value_Of F) := by
  intro a s γ K q h
  unfold P_value_Of at h
  split at h
  · exact body_ok (tab_call (tab_call (tab_call (tab_nil _) (E_value_near p (ent_none _ _))) (E_value_Null p (ent_none _ _))) (E_value_Bool p (ent_none _ _))) rfl ((e_value_Of p _ _ _ _ _ _).trans h)
  · exact hF _ _ _ _ _ h
abbrev Ty_value_Show : Type 1 := Int → Int → ByteArray → (γ : Type) → (ByteArray → Option γ) → Option γ
def P_value_Show (X : Ty_value_Show) (F : Ent3) : Ent3 := fun a s γ K => match a, s with
  | [AVal.agg [(Dat.int IntKind.i64 v_v0, Own.none), (Dat.int IntKind.i64 v_v1, Own.none), (Dat.str v_v2, Own.none)]], [] => X v_v0 v_v1 v_v2 γ (fun r0 => K ([(AVal.dat (Dat.str r0), Own.none)], []))
  | a, s => F a s γ K
def T_value_Show (x_value_Check : Ty_value_Check) (x_strconv_Itoa : Ty_strconv_Itoa) (x_strings_ReplaceAll : Ty_strings_ReplaceAll) : CallK := (addK (addK (addK noneK 9 (P_value_Check x_value_Check none3)) 31 (P_strconv_Itoa x_strconv_Itoa none3)) 32 (P_strings_ReplaceAll x_strings_ReplaceAll none3))
def L_value_Show (x_value_Check : Ty_value_Check) (x_strconv_Itoa : Ty_strconv_Itoa) (x_strings_ReplaceAll : Ty_strings_ReplaceAll) : LoopK := noneL
def Sp.B_value_Show (x_value_Check : Ty_value_Check) (x_strconv_Itoa : Ty_strconv_Itoa) (x_strings_ReplaceAll : Ty_strings_ReplaceAll) (v_v0 : Int) (v_v1 : Int) (v_v2 : ByteArray) (γ : Type) (K : ByteArray → Option γ) : Option γ := x_value_Check v_v0 v_v1 v_v2 γ fun (z5 : Int) => bif !decide (z5 = 0) then K (bs [63]) else bif decide (v_v0 = 0) then K (bs [78, 85, 76, 76]) else bif decide (v_v0 = 2) then x_strconv_Itoa v_v1 γ fun (z6 : ByteArray) => K z6 else bif decide (v_v0 = 3) then x_strings_ReplaceAll v_v2 (bs [39]) (bs [39, 39]) γ fun (z7 : ByteArray) => bif decide (1 + ByteArray.size z7 ≤ 1152921504606846976) then bif decide (ByteArray.size (bs [39] ++ z7) + 1 ≤ 1152921504606846976) then K (bs [39] ++ z7 ++ bs [39]) else none else none else bif decide (v_v1 = 1) then K (bs [84, 82, 85, 69]) else K (bs [70, 65, 76, 83, 69])
theorem e_value_Show (p : Par) (x_value_Check : Ty_value_Check) (x_strconv_Itoa : Ty_strconv_Itoa) (x_strings_ReplaceAll : Ty_strings_ReplaceAll) (v_v0 : Int) (v_v1 : Int) (v_v2 : ByteArray) (γ : Type) (K : List Ent × Sig → Option γ) : evFK (cfg p) (T_value_Show x_value_Check x_strconv_Itoa x_strings_ReplaceAll) (L_value_Show x_value_Check x_strconv_Itoa x_strings_ReplaceAll) 17 [AVal.agg [(Dat.int IntKind.i64 v_v0, Own.none), (Dat.int IntKind.i64 v_v1, Own.none), (Dat.str v_v2, Own.none)]] [] γ K = Sp.B_value_Show x_value_Check x_strconv_Itoa x_strings_ReplaceAll v_v0 v_v1 v_v2 γ (fun r0 => K ([(AVal.dat (Dat.str r0), Own.none)], [])) := by kernel_rfl
def Sp.value_Show : Ty_value_Show := Sp.B_value_Show Sp.value_Check Sp.strconv_Itoa Sp.strings_ReplaceAll
theorem E_value_Show (p : Par) {F : Ent3} (hF : EntOk (cfg p) 17 F) : EntOk (cfg p) 17 (P_value_Show Sp.value_Show F) := by
  intro a s γ K q h
  unfold P_value_Show at h
  split at h
  · exact body_ok (tab_call (tab_call (tab_call (tab_nil _) (E_value_Check p (ent_none _ _))) (E_strconv_Itoa p (ent_none _ _))) (E_strings_ReplaceAll p (ent_none _ _))) rfl ((e_value_Show p _ _ _ _ _ _ _ _).trans h)
  · exact hF _ _ _ _ _ h
abbrev Ty_law01_lives : Type 1 := (γ : Type) → (Bool → Option γ) → Option γ
def P_law01_lives (X : Ty_law01_lives) (F : Ent3) : Ent3 := fun a s γ K => match a, s with
  | [], [] => X  γ (fun r0 => K ([(AVal.dat (Dat.bool r0), Own.none)], []))
  | a, s => F a s γ K
def T_law01_lives (x_value_Int : Ty_value_Int) (x_value_Check : Ty_value_Check) (x_value_Text : Ty_value_Text) (x_value_Compare : Ty_value_Compare) (x_value_Equal : Ty_value_Equal) (x_value_Null : Ty_value_Null) (x_value_Less : Ty_value_Less) (x_value_And : Ty_value_And) (x_value_Or : Ty_value_Or) (x_value_Not : Ty_value_Not) (x_value_Bool : Ty_value_Bool) (x_value_Truth : Ty_value_Truth) (x_value_Of : Ty_value_Of) (x_value_Show : Ty_value_Show) : CallK := (addK (addK (addK (addK (addK (addK (addK (addK (addK (addK (addK (addK (addK (addK noneK 13 (P_value_Int x_value_Int none3)) 9 (P_value_Check x_value_Check none3)) 15 (P_value_Text x_value_Text none3)) 19 (P_value_Compare x_value_Compare none3)) 21 (P_value_Equal x_value_Equal none3)) 10 (P_value_Null x_value_Null none3)) 23 (P_value_Less x_value_Less none3)) 28 (P_value_And x_value_And none3)) 29 (P_value_Or x_value_Or none3)) 27 (P_value_Not x_value_Not none3)) 11 (P_value_Bool x_value_Bool none3)) 25 (P_value_Truth x_value_Truth none3)) 30 (P_value_Of x_value_Of none3)) 17 (P_value_Show x_value_Show none3))
def L_law01_lives (x_value_Int : Ty_value_Int) (x_value_Check : Ty_value_Check) (x_value_Text : Ty_value_Text) (x_value_Compare : Ty_value_Compare) (x_value_Equal : Ty_value_Equal) (x_value_Null : Ty_value_Null) (x_value_Less : Ty_value_Less) (x_value_And : Ty_value_And) (x_value_Or : Ty_value_Or) (x_value_Not : Ty_value_Not) (x_value_Bool : Ty_value_Bool) (x_value_Truth : Ty_value_Truth) (x_value_Of : Ty_value_Of) (x_value_Show : Ty_value_Show) : LoopK := noneL
def Sp.B_law01_lives (x_value_Int : Ty_value_Int) (x_value_Check : Ty_value_Check) (x_value_Text : Ty_value_Text) (x_value_Compare : Ty_value_Compare) (x_value_Equal : Ty_value_Equal) (x_value_Null : Ty_value_Null) (x_value_Less : Ty_value_Less) (x_value_And : Ty_value_And) (x_value_Or : Ty_value_Or) (x_value_Not : Ty_value_Not) (x_value_Bool : Ty_value_Bool) (x_value_Truth : Ty_value_Truth) (x_value_Of : Ty_value_Of) (x_value_Show : Ty_value_Show)  (γ : Type) (K : Bool → Option γ) : Option γ := x_value_Int 9007199254740992 γ fun (z2 z3 : Int) (z4 : ByteArray) => x_value_Check z2 z3 z4 γ fun (z5 : Int) => bif decide (z5 = 10) then x_value_Int 2 γ fun (z6 z7 : Int) (z8 : ByteArray) => x_value_Text (bs [97]) γ fun (z9 z10 : Int) (z11 : ByteArray) => x_value_Compare z6 z7 z8 z9 z10 z11 γ fun (z12 : Int) => bif decide (z12 = -1) then x_value_Int 2 γ fun (z13 z14 : Int) (z15 : ByteArray) => x_value_Int 2 γ fun (z16 z17 : Int) (z18 : ByteArray) => x_value_Equal z13 z14 z15 z16 z17 z18 γ fun (z19 : Int) => bif decide (z19 = 1) then x_value_Null γ fun (z20 z21 : Int) (z22 : ByteArray) => x_value_Int 2 γ fun (z23 z24 : Int) (z25 : ByteArray) => x_value_Less z20 z21 z22 z23 z24 z25 γ fun (z26 : Int) => bif decide (z26 = 2) then x_value_And 0 2 γ fun (z27 : Int) => bif decide (z27 = 0) then x_value_Or 1 2 γ fun (z28 : Int) => bif decide (z28 = 1) then x_value_Not 2 γ fun (z29 : Int) => bif decide (z29 = 2) then x_value_Bool true γ fun (z30 z31 : Int) (z32 : ByteArray) => x_value_Truth z30 z31 z32 γ fun (z33 : Int) => bif decide (z33 = 1) then x_value_Of 2 γ fun (z34 z35 : Int) (z36 : ByteArray) => x_value_Null γ fun (z37 z38 : Int) (z39 : ByteArray) => bif decide (z34 = z37) && (decide (z35 = z38) && (decide (z36 = z39) && true)) then x_value_Text (bs [105, 116, 39, 115]) γ fun (z40 z41 : Int) (z42 : ByteArray) => x_value_Show z40 z41 z42 γ fun (z43 : ByteArray) => K (decide (z43 = bs [39, 105, 116, 39, 39, 115, 39])) else K false else K false else K false else K false else K false else K false else K false else K false else K false
theorem e_law01_lives (p : Par) (x_value_Int : Ty_value_Int) (x_value_Check : Ty_value_Check) (x_value_Text : Ty_value_Text) (x_value_Compare : Ty_value_Compare) (x_value_Equal : Ty_value_Equal) (x_value_Null : Ty_value_Null) (x_value_Less : Ty_value_Less) (x_value_And : Ty_value_And) (x_value_Or : Ty_value_Or) (x_value_Not : Ty_value_Not) (x_value_Bool : Ty_value_Bool) (x_value_Truth : Ty_value_Truth) (x_value_Of : Ty_value_Of) (x_value_Show : Ty_value_Show)  (γ : Type) (K : List Ent × Sig → Option γ) : evFK (cfg p) (T_law01_lives x_value_Int x_value_Check x_value_Text x_value_Compare x_value_Equal x_value_Null x_value_Less x_value_And x_value_Or x_value_Not x_value_Bool x_value_Truth x_value_Of x_value_Show) (L_law01_lives x_value_Int x_value_Check x_value_Text x_value_Compare x_value_Equal x_value_Null x_value_Less x_value_And x_value_Or x_value_Not x_value_Bool x_value_Truth x_value_Of x_value_Show) 7 [] [] γ K = Sp.B_law01_lives x_value_Int x_value_Check x_value_Text x_value_Compare x_value_Equal x_value_Null x_value_Less x_value_And x_value_Or x_value_Not x_value_Bool x_value_Truth x_value_Of x_value_Show  γ (fun r0 => K ([(AVal.dat (Dat.bool r0), Own.none)], [])) := by kernel_rfl
def Sp.law01_lives : Ty_law01_lives := Sp.B_law01_lives Sp.value_Int Sp.value_Check Sp.value_Text Sp.value_Compare Sp.value_Equal Sp.value_Null Sp.value_Less Sp.value_And Sp.value_Or Sp.value_Not Sp.value_Bool Sp.value_Truth Sp.value_Of Sp.value_Show
theorem E_law01_lives (p : Par) {F : Ent3} (hF : EntOk (cfg p) 7 F) : EntOk (cfg p) 7 (P_law01_lives Sp.law01_lives F) := by
  intro a s γ K q h
  unfold P_law01_lives at h
  split at h
  · exact body_ok (tab_call (tab_call (tab_call (tab_call (tab_call (tab_call (tab_call (tab_call (tab_call (tab_call (tab_call (tab_call (tab_call (tab_call (tab_nil _) (E_value_Int p (ent_none _ _))) (E_value_Check p (ent_none _ _))) (E_value_Text p (ent_none _ _))) (E_value_Compare p (ent_none _ _))) (E_value_Equal p (ent_none _ _))) (E_value_Null p (ent_none _ _))) (E_value_Less p (ent_none _ _))) (E_value_And p (ent_none _ _))) (E_value_Or p (ent_none _ _))) (E_value_Not p (ent_none _ _))) (E_value_Bool p (ent_none _ _))) (E_value_Truth p (ent_none _ _))) (E_value_Of p (ent_none _ _))) (E_value_Show p (ent_none _ _))) rfl ((e_law01_lives p _ _ _ _ _ _ _ _ _ _ _ _ _ _ _ _ ).trans h)
  · exact hF _ _ _ _ _ h
abbrev Ty_ref01_Check : Type 1 := Int → Int → ByteArray → (γ : Type) → (Bool → Option γ) → Option γ
def P_ref01_Check (X : Ty_ref01_Check) (F : Ent3) : Ent3 := fun a s γ K => match a, s with
  | [AVal.agg [(Dat.int IntKind.i64 v_v0, Own.none), (Dat.int IntKind.i64 v_v1, Own.none), (Dat.str v_v2, Own.none)]], [] => X v_v0 v_v1 v_v2 γ (fun r0 => K ([(AVal.dat (Dat.bool r0), Own.none)], []))
  | a, s => F a s γ K
def T_ref01_Check  : CallK := noneK
def L_ref01_Check  : LoopK := noneL
def Sp.B_ref01_Check  (v_v0 : Int) (v_v1 : Int) (v_v2 : ByteArray) (γ : Type) (K : Bool → Option γ) : Option γ := bif decide (v_v0 = 0) then bif decide (v_v1 = 0) then K (decide (v_v2 = bs [])) else K false else bif decide (v_v0 = 1) then bif decide (v_v1 = 0) then K (decide (v_v2 = bs [])) else bif decide (v_v1 = 1) then K (decide (v_v2 = bs [])) else K false else bif decide (v_v0 = 2) then bif decide (-9007199254740991 ≤ v_v1) then bif decide (v_v1 ≤ 9007199254740991) then K (decide (v_v2 = bs [])) else K false else K false else bif decide (v_v0 = 3) then bif decide (v_v1 = 0) then K (decide (Int.ofNat (ByteArray.size v_v2) ≤ 64)) else K false else K false
theorem e_ref01_Check (p : Par)  (v_v0 : Int) (v_v1 : Int) (v_v2 : ByteArray) (γ : Type) (K : List Ent × Sig → Option γ) : evFK (cfg p) (T_ref01_Check ) (L_ref01_Check ) 8 [AVal.agg [(Dat.int IntKind.i64 v_v0, Own.none), (Dat.int IntKind.i64 v_v1, Own.none), (Dat.str v_v2, Own.none)]] [] γ K = Sp.B_ref01_Check  v_v0 v_v1 v_v2 γ (fun r0 => K ([(AVal.dat (Dat.bool r0), Own.none)], [])) := by kernel_rfl
def Sp.ref01_Check : Ty_ref01_Check := Sp.B_ref01_Check 
theorem E_ref01_Check (p : Par) {F : Ent3} (hF : EntOk (cfg p) 8 F) : EntOk (cfg p) 8 (P_ref01_Check Sp.ref01_Check F) := by
  intro a s γ K q h
  unfold P_ref01_Check at h
  split at h
  · exact body_ok (tab_nil _) rfl ((e_ref01_Check p  _ _ _ _ _).trans h)
  · exact hF _ _ _ _ _ h
abbrev Ty_ref01_Bool : Type 1 := Bool → (γ : Type) → (Int → Int → ByteArray → Option γ) → Option γ
def P_ref01_Bool (X : Ty_ref01_Bool) (F : Ent3) : Ent3 := fun a s γ K => match a, s with
  | [AVal.dat (Dat.bool v_is)], [] => X v_is γ (fun r0 r1 r2 => K ([(AVal.agg [(Dat.int IntKind.i64 r0, Own.none), (Dat.int IntKind.i64 r1, Own.none), (Dat.str r2, Own.none)], Own.none)], []))
  | a, s => F a s γ K
def T_ref01_Bool  : CallK := noneK
def L_ref01_Bool  : LoopK := noneL
def Sp.B_ref01_Bool  (v_is : Bool) (γ : Type) (K : Int → Int → ByteArray → Option γ) : Option γ := bif v_is then K 1 1 (bs []) else K 1 0 (bs [])
theorem e_ref01_Bool (p : Par)  (v_is : Bool) (γ : Type) (K : List Ent × Sig → Option γ) : evFK (cfg p) (T_ref01_Bool ) (L_ref01_Bool ) 12 [AVal.dat (Dat.bool v_is)] [] γ K = Sp.B_ref01_Bool  v_is γ (fun r0 r1 r2 => K ([(AVal.agg [(Dat.int IntKind.i64 r0, Own.none), (Dat.int IntKind.i64 r1, Own.none), (Dat.str r2, Own.none)], Own.none)], [])) := by kernel_rfl
def Sp.ref01_Bool : Ty_ref01_Bool := Sp.B_ref01_Bool 
theorem E_ref01_Bool (p : Par) {F : Ent3} (hF : EntOk (cfg p) 12 F) : EntOk (cfg p) 12 (P_ref01_Bool Sp.ref01_Bool F) := by
  intro a s γ K q h
  unfold P_ref01_Bool at h
  split at h
  · exact body_ok (tab_nil _) rfl ((e_ref01_Bool p  _ _ _).trans h)
  · exact hF _ _ _ _ _ h
abbrev Ty_ref01_Int : Type 1 := Int → (γ : Type) → (Int → Int → ByteArray → Option γ) → Option γ
def P_ref01_Int (X : Ty_ref01_Int) (F : Ent3) : Ent3 := fun a s γ K => match a, s with
  | [AVal.dat (Dat.int IntKind.i64 v_n)], [] => X v_n γ (fun r0 r1 r2 => K ([(AVal.agg [(Dat.int IntKind.i64 r0, Own.none), (Dat.int IntKind.i64 r1, Own.none), (Dat.str r2, Own.none)], Own.none)], []))
  | a, s => F a s γ K
def T_ref01_Int  : CallK := noneK
def L_ref01_Int  : LoopK := noneL
def Sp.B_ref01_Int  (v_n : Int) (γ : Type) (K : Int → Int → ByteArray → Option γ) : Option γ := K 2 v_n (bs [])
theorem e_ref01_Int (p : Par)  (v_n : Int) (γ : Type) (K : List Ent × Sig → Option γ) : evFK (cfg p) (T_ref01_Int ) (L_ref01_Int ) 14 [AVal.dat (Dat.int IntKind.i64 v_n)] [] γ K = Sp.B_ref01_Int  v_n γ (fun r0 r1 r2 => K ([(AVal.agg [(Dat.int IntKind.i64 r0, Own.none), (Dat.int IntKind.i64 r1, Own.none), (Dat.str r2, Own.none)], Own.none)], [])) := by kernel_rfl
def Sp.ref01_Int : Ty_ref01_Int := Sp.B_ref01_Int 
theorem E_ref01_Int (p : Par) {F : Ent3} (hF : EntOk (cfg p) 14 F) : EntOk (cfg p) 14 (P_ref01_Int Sp.ref01_Int F) := by
  intro a s γ K q h
  unfold P_ref01_Int at h
  split at h
  · exact body_ok (tab_nil _) rfl ((e_ref01_Int p  _ _ _).trans h)
  · exact hF _ _ _ _ _ h
abbrev Ty_ref01_Text : Type 1 := ByteArray → (γ : Type) → (Int → Int → ByteArray → Option γ) → Option γ
def P_ref01_Text (X : Ty_ref01_Text) (F : Ent3) : Ent3 := fun a s γ K => match a, s with
  | [AVal.dat (Dat.str v_s)], [] => X v_s γ (fun r0 r1 r2 => K ([(AVal.agg [(Dat.int IntKind.i64 r0, Own.none), (Dat.int IntKind.i64 r1, Own.none), (Dat.str r2, Own.none)], Own.none)], []))
  | a, s => F a s γ K
def T_ref01_Text  : CallK := noneK
def L_ref01_Text  : LoopK := noneL
def Sp.B_ref01_Text  (v_s : ByteArray) (γ : Type) (K : Int → Int → ByteArray → Option γ) : Option γ := K 3 0 v_s
theorem e_ref01_Text (p : Par)  (v_s : ByteArray) (γ : Type) (K : List Ent × Sig → Option γ) : evFK (cfg p) (T_ref01_Text ) (L_ref01_Text ) 16 [AVal.dat (Dat.str v_s)] [] γ K = Sp.B_ref01_Text  v_s γ (fun r0 r1 r2 => K ([(AVal.agg [(Dat.int IntKind.i64 r0, Own.none), (Dat.int IntKind.i64 r1, Own.none), (Dat.str r2, Own.none)], Own.none)], [])) := by kernel_rfl
def Sp.ref01_Text : Ty_ref01_Text := Sp.B_ref01_Text 
theorem E_ref01_Text (p : Par) {F : Ent3} (hF : EntOk (cfg p) 16 F) : EntOk (cfg p) 16 (P_ref01_Text Sp.ref01_Text F) := by
  intro a s γ K q h
  unfold P_ref01_Text at h
  split at h
  · exact body_ok (tab_nil _) rfl ((e_ref01_Text p  _ _ _).trans h)
  · exact hF _ _ _ _ _ h
abbrev Ty_ref01_Digits_L0 : Type 1 := Int → ByteArray → (γ : Type) → (Ex → Int → ByteArray → Option γ) → Option γ
def P_ref01_Digits_L0 (X : Ty_ref01_Digits_L0) (F : Loop3) : Loop3 := fun a s γ K => match a, s with
  | [], ([AVal.dat (Dat.int IntKind.i64 v_n), AVal.dat (Dat.str v_s)], []) => X v_n v_s γ (fun e x0 x1 => K (e, ([AVal.dat (Dat.int IntKind.i64 x0), AVal.dat (Dat.str x1)], [])))
  | a, s => F a s γ K
def T_ref01_Digits_L0  : CallK := noneK
def L_ref01_Digits_L0  : LoopK := noneL
def Sp.B_ref01_Digits_L0 (x_ref01_Digits_L0 : Ty_ref01_Digits_L0)  (v_n : Int) (v_s : ByteArray) (γ : Type) (K : Ex → Int → ByteArray → Option γ) : Option γ := bif decide (0 < v_n) then bif decide (0 ≤ Int.tmod v_n 10) && decide (Int.tmod v_n 10 ≤ IntKind.wrap IntKind.i64 (Int.tmod v_n 10 + 1)) && decide (IntKind.wrap IntKind.i64 (Int.tmod v_n 10 + 1) ≤ 10) && true then bif decide (ByteArray.size (ByteArray.extract (bs [48, 49, 50, 51, 52, 53, 54, 55, 56, 57]) (Int.toNat (Int.tmod v_n 10)) (Int.toNat (IntKind.wrap IntKind.i64 (Int.tmod v_n 10 + 1)))) + ByteArray.size v_s ≤ 1152921504606846976) then x_ref01_Digits_L0 (IntKind.wrap IntKind.i64 (Int.tdiv v_n 10)) (ByteArray.extract (bs [48, 49, 50, 51, 52, 53, 54, 55, 56, 57]) (Int.toNat (Int.tmod v_n 10)) (Int.toNat (IntKind.wrap IntKind.i64 (Int.tmod v_n 10 + 1))) ++ v_s) γ K else none else none else bif decide (v_s = bs []) then bif decide (0 ≤ Int.tmod v_n 10) && decide (Int.tmod v_n 10 ≤ IntKind.wrap IntKind.i64 (Int.tmod v_n 10 + 1)) && decide (IntKind.wrap IntKind.i64 (Int.tmod v_n 10 + 1) ≤ 10) && true then bif decide (ByteArray.size (ByteArray.extract (bs [48, 49, 50, 51, 52, 53, 54, 55, 56, 57]) (Int.toNat (Int.tmod v_n 10)) (Int.toNat (IntKind.wrap IntKind.i64 (Int.tmod v_n 10 + 1)))) + ByteArray.size v_s ≤ 1152921504606846976) then x_ref01_Digits_L0 (IntKind.wrap IntKind.i64 (Int.tdiv v_n 10)) (ByteArray.extract (bs [48, 49, 50, 51, 52, 53, 54, 55, 56, 57]) (Int.toNat (Int.tmod v_n 10)) (Int.toNat (IntKind.wrap IntKind.i64 (Int.tmod v_n 10 + 1))) ++ v_s) γ K else none else none else K (Ex.exit 0) v_n v_s
theorem e_ref01_Digits_L0 (p : Par) (x_ref01_Digits_L0 : Ty_ref01_Digits_L0)  (v_n : Int) (v_s : ByteArray) (γ : Type) (K : Ex × Vars → Option γ) : roundK (cfg p) (T_ref01_Digits_L0 ) (L_ref01_Digits_L0 ) 33 0 [] ([AVal.dat (Dat.int IntKind.i64 v_n), AVal.dat (Dat.str v_s)], []) γ (contL (fun v => P_ref01_Digits_L0 x_ref01_Digits_L0 noneL3 [] v γ K) K) = Sp.B_ref01_Digits_L0 x_ref01_Digits_L0  v_n v_s γ (fun e x0 x1 => K (e, ([AVal.dat (Dat.int IntKind.i64 x0), AVal.dat (Dat.str x1)], []))) := by kernel_rfl
def Sp.ref01_Digits_L0 : Nat → Ty_ref01_Digits_L0
  | 0 => fun _ _ _ _ => none
  | n + 1 => Sp.B_ref01_Digits_L0 (Sp.ref01_Digits_L0 n) 
theorem E0_ref01_Digits_L0 (p : Par)   : ∀ n, EntOkL (cfg p) 33 0 (P_ref01_Digits_L0 (Sp.ref01_Digits_L0  n) noneL3) := entL_rounds (tab_nil _) (by kernel_rfl) (fun c v γ K => by unfold P_ref01_Digits_L0; split <;> rfl) fun n c v γ K q h => by
  unfold P_ref01_Digits_L0 at h
  split at h
  · exact (e_ref01_Digits_L0 p _  _ _ _ _).trans h
  · cases h
theorem E_ref01_Digits_L0 (p : Par)   (n : Nat) {F : Loop3} (hF : EntOkL (cfg p) 33 0 F) : EntOkL (cfg p) 33 0 (P_ref01_Digits_L0 (Sp.ref01_Digits_L0  n) F) := by
  intro c v γ K q h
  unfold P_ref01_Digits_L0 at h
  split at h
  · exact E0_ref01_Digits_L0 p   n _ _ _ _ _ h
  · exact hF _ _ _ _ _ h
abbrev Ty_ref01_Digits : Type 1 := Int → (γ : Type) → (ByteArray → Option γ) → Option γ
def P_ref01_Digits (X : Ty_ref01_Digits) (F : Ent3) : Ent3 := fun a s γ K => match a, s with
  | [AVal.dat (Dat.int IntKind.i64 v_n)], [] => X v_n γ (fun r0 => K ([(AVal.dat (Dat.str r0), Own.none)], []))
  | a, s => F a s γ K
def T_ref01_Digits (x_ref01_Digits : Ty_ref01_Digits) (x_ref01_Digits_L0 : Ty_ref01_Digits_L0) : CallK := (addK noneK 33 (P_ref01_Digits x_ref01_Digits none3))
def L_ref01_Digits (x_ref01_Digits : Ty_ref01_Digits) (x_ref01_Digits_L0 : Ty_ref01_Digits_L0) : LoopK := (addL noneL 33 0 (P_ref01_Digits_L0 x_ref01_Digits_L0 noneL3))
def Sp.B_ref01_Digits (x_ref01_Digits : Ty_ref01_Digits) (x_ref01_Digits_L0 : Ty_ref01_Digits_L0) (v_n : Int) (γ : Type) (K : ByteArray → Option γ) : Option γ := bif decide (v_n < 0) then x_ref01_Digits (IntKind.wrap IntKind.i64 (0 - v_n)) γ fun (z3 : ByteArray) => bif decide (1 + ByteArray.size z3 ≤ 1152921504606846976) then K (bs [45] ++ z3) else none else x_ref01_Digits_L0 v_n (bs []) γ fun (z4 : Ex) (z5 : Int) (z6 : ByteArray) => bif Ex.isExit z4 0 then K z6 else bif Ex.isRet z4 then none else none
theorem e_ref01_Digits (p : Par) (x_ref01_Digits : Ty_ref01_Digits) (x_ref01_Digits_L0 : Ty_ref01_Digits_L0) (v_n : Int) (γ : Type) (K : List Ent × Sig → Option γ) : evFK (cfg p) (T_ref01_Digits x_ref01_Digits x_ref01_Digits_L0) (L_ref01_Digits x_ref01_Digits x_ref01_Digits_L0) 33 [AVal.dat (Dat.int IntKind.i64 v_n)] [] γ K = Sp.B_ref01_Digits x_ref01_Digits x_ref01_Digits_L0 v_n γ (fun r0 => K ([(AVal.dat (Dat.str r0), Own.none)], [])) := by kernel_rfl
def Sp.ref01_Digits : Nat → Ty_ref01_Digits
  | 0 => fun _ _ _ => none
  | n + 1 => Sp.B_ref01_Digits (Sp.ref01_Digits n) (Sp.ref01_Digits_L0 fuel)
theorem G32_ok (p : Par) (n : Nat) : (∀ {F : Ent3}, EntOk (cfg p) 33 F → EntOk (cfg p) 33 (P_ref01_Digits (Sp.ref01_Digits n) F)) := by
  induction n with
  | zero =>
    refine ?_
    · intro F hF a s γ K q h
      unfold P_ref01_Digits at h
      split at h
      · cases h
      · exact hF _ _ _ _ _ h
  | succ n ih =>
    refine ?_
    · intro F hF a s γ K q h
      unfold P_ref01_Digits at h
      split at h
      · exact body_ok (tab_loop (tab_call (tab_nil _) (ih (ent_none _ _))) (E_ref01_Digits_L0 p fuel (entL_none _ _ _))) rfl ((e_ref01_Digits p _ _ _ _ _).trans h)
      · exact hF _ _ _ _ _ h
theorem E_ref01_Digits (p : Par) (n : Nat) {F : Ent3} (hF : EntOk (cfg p) 33 F) : EntOk (cfg p) 33 (P_ref01_Digits (Sp.ref01_Digits n) F) := (G32_ok p n) hF
abbrev Ty_ref01_Show_L1 : Type 1 := ByteArray → Int → Int → Int → ByteArray → (γ : Type) → (Ex → ByteArray → Int → Int → Int → ByteArray → Option γ) → Option γ
def P_ref01_Show_L1 (X : Ty_ref01_Show_L1) (F : Loop3) : Loop3 := fun a s γ K => match a, s with
  | [AVal.loc 1 0], ([AVal.dat (Dat.str v_s), AVal.dat (Dat.int IntKind.i64 v_i), AVal.agg [(Dat.int IntKind.i64 v_box0, Own.none), (Dat.int IntKind.i64 v_box1, Own.none), (Dat.str v_box2, Own.none)]], []) => X v_s v_i v_box0 v_box1 v_box2 γ (fun e x0 x1 x2 x3 x4 => K (e, ([AVal.dat (Dat.str x0), AVal.dat (Dat.int IntKind.i64 x1), AVal.agg [(Dat.int IntKind.i64 x2, Own.none), (Dat.int IntKind.i64 x3, Own.none), (Dat.str x4, Own.none)]], [])))
  | a, s => F a s γ K
def T_ref01_Show_L1  : CallK := noneK
def L_ref01_Show_L1  : LoopK := noneL
def Sp.B_ref01_Show_L1 (x_ref01_Show_L1 : Ty_ref01_Show_L1)  (v_s : ByteArray) (v_i : Int) (v_box0 : Int) (v_box1 : Int) (v_box2 : ByteArray) (γ : Type) (K : Ex → ByteArray → Int → Int → Int → ByteArray → Option γ) : Option γ := bif decide (v_i < Int.ofNat (ByteArray.size v_box2)) then bif decide (0 ≤ v_i) && decide (v_i ≤ IntKind.wrap IntKind.i64 (v_i + 1)) && decide (IntKind.wrap IntKind.i64 (v_i + 1) ≤ Int.ofNat (ByteArray.size v_box2)) && true then bif decide (ByteArray.size v_s + ByteArray.size (ByteArray.extract v_box2 (Int.toNat v_i) (Int.toNat (IntKind.wrap IntKind.i64 (v_i + 1)))) ≤ 1152921504606846976) then byteAt v_box2 v_i fun (z7 : UInt8) => bif decide (Int.ofNat (BitVec.toFin (UInt8.toBitVec z7)).1 = 39) then bif decide (ByteArray.size (v_s ++ ByteArray.extract v_box2 (Int.toNat v_i) (Int.toNat (IntKind.wrap IntKind.i64 (v_i + 1)))) + 1 ≤ 1152921504606846976) then x_ref01_Show_L1 (v_s ++ ByteArray.extract v_box2 (Int.toNat v_i) (Int.toNat (IntKind.wrap IntKind.i64 (v_i + 1))) ++ bs [39]) (IntKind.wrap IntKind.i64 (v_i + 1)) v_box0 v_box1 v_box2 γ K else none else x_ref01_Show_L1 (v_s ++ ByteArray.extract v_box2 (Int.toNat v_i) (Int.toNat (IntKind.wrap IntKind.i64 (v_i + 1)))) (IntKind.wrap IntKind.i64 (v_i + 1)) v_box0 v_box1 v_box2 γ K else none else none else K (Ex.exit 1) v_s v_i v_box0 v_box1 v_box2
theorem e_ref01_Show_L1 (p : Par) (x_ref01_Show_L1 : Ty_ref01_Show_L1)  (v_s : ByteArray) (v_i : Int) (v_box0 : Int) (v_box1 : Int) (v_box2 : ByteArray) (γ : Type) (K : Ex × Vars → Option γ) : roundK (cfg p) (T_ref01_Show_L1 ) (L_ref01_Show_L1 ) 18 1 [AVal.loc 1 0] ([AVal.dat (Dat.str v_s), AVal.dat (Dat.int IntKind.i64 v_i), AVal.agg [(Dat.int IntKind.i64 v_box0, Own.none), (Dat.int IntKind.i64 v_box1, Own.none), (Dat.str v_box2, Own.none)]], []) γ (contL (fun v => P_ref01_Show_L1 x_ref01_Show_L1 noneL3 [AVal.loc 1 0] v γ K) K) = Sp.B_ref01_Show_L1 x_ref01_Show_L1  v_s v_i v_box0 v_box1 v_box2 γ (fun e x0 x1 x2 x3 x4 => K (e, ([AVal.dat (Dat.str x0), AVal.dat (Dat.int IntKind.i64 x1), AVal.agg [(Dat.int IntKind.i64 x2, Own.none), (Dat.int IntKind.i64 x3, Own.none), (Dat.str x4, Own.none)]], []))) := by kernel_rfl
def Sp.ref01_Show_L1 : Nat → Ty_ref01_Show_L1
  | 0 => fun _ _ _ _ _ _ _ => none
  | n + 1 => Sp.B_ref01_Show_L1 (Sp.ref01_Show_L1 n) 
theorem E0_ref01_Show_L1 (p : Par)   : ∀ n, EntOkL (cfg p) 18 1 (P_ref01_Show_L1 (Sp.ref01_Show_L1  n) noneL3) := entL_rounds (tab_nil _) (by kernel_rfl) (fun c v γ K => by unfold P_ref01_Show_L1; split <;> rfl) fun n c v γ K q h => by
  unfold P_ref01_Show_L1 at h
  split at h
  · exact (e_ref01_Show_L1 p _  _ _ _ _ _ _ _).trans h
  · cases h
theorem E_ref01_Show_L1 (p : Par)   (n : Nat) {F : Loop3} (hF : EntOkL (cfg p) 18 1 F) : EntOkL (cfg p) 18 1 (P_ref01_Show_L1 (Sp.ref01_Show_L1  n) F) := by
  intro c v γ K q h
  unfold P_ref01_Show_L1 at h
  split at h
  · exact E0_ref01_Show_L1 p   n _ _ _ _ _ h
  · exact hF _ _ _ _ _ h
abbrev Ty_ref01_Show : Type 1 := Int → Int → ByteArray → (γ : Type) → (ByteArray → Option γ) → Option γ
def P_ref01_Show (X : Ty_ref01_Show) (F : Ent3) : Ent3 := fun a s γ K => match a, s with
  | [AVal.agg [(Dat.int IntKind.i64 v_v0, Own.none), (Dat.int IntKind.i64 v_v1, Own.none), (Dat.str v_v2, Own.none)]], [] => X v_v0 v_v1 v_v2 γ (fun r0 => K ([(AVal.dat (Dat.str r0), Own.none)], []))
  | a, s => F a s γ K
def T_ref01_Show (x_ref01_Check : Ty_ref01_Check) (x_ref01_Digits : Ty_ref01_Digits) (x_ref01_Show_L1 : Ty_ref01_Show_L1) : CallK := (addK (addK noneK 8 (P_ref01_Check x_ref01_Check none3)) 33 (P_ref01_Digits x_ref01_Digits none3))
def L_ref01_Show (x_ref01_Check : Ty_ref01_Check) (x_ref01_Digits : Ty_ref01_Digits) (x_ref01_Show_L1 : Ty_ref01_Show_L1) : LoopK := (addL noneL 18 1 (P_ref01_Show_L1 x_ref01_Show_L1 noneL3))
def Sp.B_ref01_Show (x_ref01_Check : Ty_ref01_Check) (x_ref01_Digits : Ty_ref01_Digits) (x_ref01_Show_L1 : Ty_ref01_Show_L1) (v_v0 : Int) (v_v1 : Int) (v_v2 : ByteArray) (γ : Type) (K : ByteArray → Option γ) : Option γ := x_ref01_Check v_v0 v_v1 v_v2 γ fun (z5 : Bool) => bif !z5 then K (bs [63]) else bif decide (v_v0 = 0) then K (bs [78, 85, 76, 76]) else bif decide (v_v0 = 1) then bif decide (v_v1 = 1) then K (bs [84, 82, 85, 69]) else K (bs [70, 65, 76, 83, 69]) else bif decide (v_v0 = 2) then x_ref01_Digits v_v1 γ fun (z6 : ByteArray) => K z6 else x_ref01_Show_L1 (bs [39]) 0 v_v0 v_v1 v_v2 γ fun (z7 : Ex) (z8 : ByteArray) (z9 z10 z11 : Int) (z12 : ByteArray) => bif Ex.isExit z7 1 then bif decide (ByteArray.size z8 + 1 ≤ 1152921504606846976) then K (z8 ++ bs [39]) else none else bif Ex.isRet z7 then none else none
theorem e_ref01_Show (p : Par) (x_ref01_Check : Ty_ref01_Check) (x_ref01_Digits : Ty_ref01_Digits) (x_ref01_Show_L1 : Ty_ref01_Show_L1) (v_v0 : Int) (v_v1 : Int) (v_v2 : ByteArray) (γ : Type) (K : List Ent × Sig → Option γ) : evFK (cfg p) (T_ref01_Show x_ref01_Check x_ref01_Digits x_ref01_Show_L1) (L_ref01_Show x_ref01_Check x_ref01_Digits x_ref01_Show_L1) 18 [AVal.agg [(Dat.int IntKind.i64 v_v0, Own.none), (Dat.int IntKind.i64 v_v1, Own.none), (Dat.str v_v2, Own.none)]] [] γ K = Sp.B_ref01_Show x_ref01_Check x_ref01_Digits x_ref01_Show_L1 v_v0 v_v1 v_v2 γ (fun r0 => K ([(AVal.dat (Dat.str r0), Own.none)], [])) := by kernel_rfl
def Sp.ref01_Show : Ty_ref01_Show := Sp.B_ref01_Show Sp.ref01_Check (Sp.ref01_Digits fuel) (Sp.ref01_Show_L1 fuel)
theorem E_ref01_Show (p : Par) {F : Ent3} (hF : EntOk (cfg p) 18 F) : EntOk (cfg p) 18 (P_ref01_Show Sp.ref01_Show F) := by
  intro a s γ K q h
  unfold P_ref01_Show at h
  split at h
  · exact body_ok (tab_loop (tab_call (tab_call (tab_nil _) (E_ref01_Check p (ent_none _ _))) (E_ref01_Digits p fuel (ent_none _ _))) (E_ref01_Show_L1 p fuel (entL_none _ _ _))) rfl ((e_ref01_Show p _ _ _ _ _ _ _ _).trans h)
  · exact hF _ _ _ _ _ h
abbrev Ty_law01_ValueMakes : Type 1 := Int → Int → ByteArray → Bool → Int → ByteArray → (γ : Type) → (Bool → Option γ) → Option γ
def P_law01_ValueMakes (X : Ty_law01_ValueMakes) (F : Ent3) : Ent3 := fun a s γ K => match a, s with
  | [AVal.agg [(Dat.int IntKind.i64 v_v0, Own.none), (Dat.int IntKind.i64 v_v1, Own.none), (Dat.str v_v2, Own.none)], AVal.dat (Dat.bool v_is), AVal.dat (Dat.int IntKind.i64 v_n), AVal.dat (Dat.str v_s)], [] => X v_v0 v_v1 v_v2 v_is v_n v_s γ (fun r0 => K ([(AVal.dat (Dat.bool r0), Own.none)], []))
  | a, s => F a s γ K
def T_law01_ValueMakes (x_law01_lives : Ty_law01_lives) (x_ref01_Check : Ty_ref01_Check) (x_value_Check : Ty_value_Check) (x_value_Null : Ty_value_Null) (x_value_Bool : Ty_value_Bool) (x_ref01_Bool : Ty_ref01_Bool) (x_value_Int : Ty_value_Int) (x_ref01_Int : Ty_ref01_Int) (x_value_Text : Ty_value_Text) (x_ref01_Text : Ty_ref01_Text) (x_value_Show : Ty_value_Show) (x_ref01_Show : Ty_ref01_Show) : CallK := (addK (addK (addK (addK (addK (addK (addK (addK (addK (addK (addK (addK noneK 7 (P_law01_lives x_law01_lives none3)) 8 (P_ref01_Check x_ref01_Check none3)) 9 (P_value_Check x_value_Check none3)) 10 (P_value_Null x_value_Null none3)) 11 (P_value_Bool x_value_Bool none3)) 12 (P_ref01_Bool x_ref01_Bool none3)) 13 (P_value_Int x_value_Int none3)) 14 (P_ref01_Int x_ref01_Int none3)) 15 (P_value_Text x_value_Text none3)) 16 (P_ref01_Text x_ref01_Text none3)) 17 (P_value_Show x_value_Show none3)) 18 (P_ref01_Show x_ref01_Show none3))
def L_law01_ValueMakes (x_law01_lives : Ty_law01_lives) (x_ref01_Check : Ty_ref01_Check) (x_value_Check : Ty_value_Check) (x_value_Null : Ty_value_Null) (x_value_Bool : Ty_value_Bool) (x_ref01_Bool : Ty_ref01_Bool) (x_value_Int : Ty_value_Int) (x_ref01_Int : Ty_ref01_Int) (x_value_Text : Ty_value_Text) (x_ref01_Text : Ty_ref01_Text) (x_value_Show : Ty_value_Show) (x_ref01_Show : Ty_ref01_Show) : LoopK := noneL
def Sp.B_law01_ValueMakes (x_law01_lives : Ty_law01_lives) (x_ref01_Check : Ty_ref01_Check) (x_value_Check : Ty_value_Check) (x_value_Null : Ty_value_Null) (x_value_Bool : Ty_value_Bool) (x_ref01_Bool : Ty_ref01_Bool) (x_value_Int : Ty_value_Int) (x_ref01_Int : Ty_ref01_Int) (x_value_Text : Ty_value_Text) (x_ref01_Text : Ty_ref01_Text) (x_value_Show : Ty_value_Show) (x_ref01_Show : Ty_ref01_Show) (v_v0 : Int) (v_v1 : Int) (v_v2 : ByteArray) (v_is : Bool) (v_n : Int) (v_s : ByteArray) (γ : Type) (K : Bool → Option γ) : Option γ := bif decide (5000 < Int.ofNat (ByteArray.size v_s)) then x_law01_lives γ fun (z8 : Bool) => K z8 else bif decide (5000 < Int.ofNat (ByteArray.size v_v2)) then x_law01_lives γ fun (z9 : Bool) => K z9 else x_ref01_Check v_v0 v_v1 v_v2 γ fun (z10 : Bool) => bif !z10 then x_law01_lives γ fun (z11 : Bool) => bif z11 then x_value_Check v_v0 v_v1 v_v2 γ fun (z12 : Int) => bif decide (z12 = 10) then x_value_Null γ fun (z13 z14 : Int) (z15 : ByteArray) => bif decide (z13 = 0) && (decide (z14 = 0) && (decide (z15 = bs []) && true)) then x_value_Bool v_is γ fun (z16 z17 : Int) (z18 : ByteArray) => x_ref01_Bool v_is γ fun (z19 z20 : Int) (z21 : ByteArray) => bif decide (z16 = z19) && (decide (z17 = z20) && (decide (z18 = z21) && true)) then x_value_Int v_n γ fun (z22 z23 : Int) (z24 : ByteArray) => x_ref01_Int v_n γ fun (z25 z26 : Int) (z27 : ByteArray) => bif decide (z22 = z25) && (decide (z23 = z26) && (decide (z24 = z27) && true)) then x_value_Text v_s γ fun (z28 z29 : Int) (z30 : ByteArray) => x_ref01_Text v_s γ fun (z31 z32 : Int) (z33 : ByteArray) => bif decide (z28 = z31) && (decide (z29 = z32) && (decide (z30 = z33) && true)) then x_value_Show v_v0 v_v1 v_v2 γ fun (z34 : ByteArray) => x_ref01_Show v_v0 v_v1 v_v2 γ fun (z35 : ByteArray) => K (decide (z34 = z35)) else K false else K false else K false else K false else K false else K false else x_law01_lives γ fun (z36 : Bool) => bif z36 then x_value_Check v_v0 v_v1 v_v2 γ fun (z37 : Int) => bif decide (z37 = 0) then x_value_Null γ fun (z38 z39 : Int) (z40 : ByteArray) => bif decide (z38 = 0) && (decide (z39 = 0) && (decide (z40 = bs []) && true)) then x_value_Bool v_is γ fun (z41 z42 : Int) (z43 : ByteArray) => x_ref01_Bool v_is γ fun (z44 z45 : Int) (z46 : ByteArray) => bif decide (z41 = z44) && (decide (z42 = z45) && (decide (z43 = z46) && true)) then x_value_Int v_n γ fun (z47 z48 : Int) (z49 : ByteArray) => x_ref01_Int v_n γ fun (z50 z51 : Int) (z52 : ByteArray) => bif decide (z47 = z50) && (decide (z48 = z51) && (decide (z49 = z52) && true)) then x_value_Text v_s γ fun (z53 z54 : Int) (z55 : ByteArray) => x_ref01_Text v_s γ fun (z56 z57 : Int) (z58 : ByteArray) => bif decide (z53 = z56) && (decide (z54 = z57) && (decide (z55 = z58) && true)) then x_value_Show v_v0 v_v1 v_v2 γ fun (z59 : ByteArray) => x_ref01_Show v_v0 v_v1 v_v2 γ fun (z60 : ByteArray) => K (decide (z59 = z60)) else K false else K false else K false else K false else K false else K false
theorem e_law01_ValueMakes (p : Par) (x_law01_lives : Ty_law01_lives) (x_ref01_Check : Ty_ref01_Check) (x_value_Check : Ty_value_Check) (x_value_Null : Ty_value_Null) (x_value_Bool : Ty_value_Bool) (x_ref01_Bool : Ty_ref01_Bool) (x_value_Int : Ty_value_Int) (x_ref01_Int : Ty_ref01_Int) (x_value_Text : Ty_value_Text) (x_ref01_Text : Ty_ref01_Text) (x_value_Show : Ty_value_Show) (x_ref01_Show : Ty_ref01_Show) (v_v0 : Int) (v_v1 : Int) (v_v2 : ByteArray) (v_is : Bool) (v_n : Int) (v_s : ByteArray) (γ : Type) (K : List Ent × Sig → Option γ) : evFK (cfg p) (T_law01_ValueMakes x_law01_lives x_ref01_Check x_value_Check x_value_Null x_value_Bool x_ref01_Bool x_value_Int x_ref01_Int x_value_Text x_ref01_Text x_value_Show x_ref01_Show) (L_law01_ValueMakes x_law01_lives x_ref01_Check x_value_Check x_value_Null x_value_Bool x_ref01_Bool x_value_Int x_ref01_Int x_value_Text x_ref01_Text x_value_Show x_ref01_Show) 3 [AVal.agg [(Dat.int IntKind.i64 v_v0, Own.none), (Dat.int IntKind.i64 v_v1, Own.none), (Dat.str v_v2, Own.none)], AVal.dat (Dat.bool v_is), AVal.dat (Dat.int IntKind.i64 v_n), AVal.dat (Dat.str v_s)] [] γ K = Sp.B_law01_ValueMakes x_law01_lives x_ref01_Check x_value_Check x_value_Null x_value_Bool x_ref01_Bool x_value_Int x_ref01_Int x_value_Text x_ref01_Text x_value_Show x_ref01_Show v_v0 v_v1 v_v2 v_is v_n v_s γ (fun r0 => K ([(AVal.dat (Dat.bool r0), Own.none)], [])) := by kernel_rfl
def Sp.law01_ValueMakes : Ty_law01_ValueMakes := Sp.B_law01_ValueMakes Sp.law01_lives Sp.ref01_Check Sp.value_Check Sp.value_Null Sp.value_Bool Sp.ref01_Bool Sp.value_Int Sp.ref01_Int Sp.value_Text Sp.ref01_Text Sp.value_Show Sp.ref01_Show
theorem E_law01_ValueMakes (p : Par) {F : Ent3} (hF : EntOk (cfg p) 3 F) : EntOk (cfg p) 3 (P_law01_ValueMakes Sp.law01_ValueMakes F) := by
  intro a s γ K q h
  unfold P_law01_ValueMakes at h
  split at h
  · exact body_ok (tab_call (tab_call (tab_call (tab_call (tab_call (tab_call (tab_call (tab_call (tab_call (tab_call (tab_call (tab_call (tab_nil _) (E_law01_lives p (ent_none _ _))) (E_ref01_Check p (ent_none _ _))) (E_value_Check p (ent_none _ _))) (E_value_Null p (ent_none _ _))) (E_value_Bool p (ent_none _ _))) (E_ref01_Bool p (ent_none _ _))) (E_value_Int p (ent_none _ _))) (E_ref01_Int p (ent_none _ _))) (E_value_Text p (ent_none _ _))) (E_ref01_Text p (ent_none _ _))) (E_value_Show p (ent_none _ _))) (E_ref01_Show p (ent_none _ _))) rfl ((e_law01_ValueMakes p _ _ _ _ _ _ _ _ _ _ _ _ _ _ _ _ _ _ _ _).trans h)
  · exact hF _ _ _ _ _ h
abbrev Ty_ref01_Compare : Type 1 := Int → Int → ByteArray → Int → Int → ByteArray → (γ : Type) → (Int → Option γ) → Option γ
def P_ref01_Compare (X : Ty_ref01_Compare) (F : Ent3) : Ent3 := fun a s γ K => match a, s with
  | [AVal.agg [(Dat.int IntKind.i64 v_a0, Own.none), (Dat.int IntKind.i64 v_a1, Own.none), (Dat.str v_a2, Own.none)], AVal.agg [(Dat.int IntKind.i64 v_b0, Own.none), (Dat.int IntKind.i64 v_b1, Own.none), (Dat.str v_b2, Own.none)]], [] => X v_a0 v_a1 v_a2 v_b0 v_b1 v_b2 γ (fun r0 => K ([(AVal.dat (Dat.int IntKind.i64 r0), Own.none)], []))
  | a, s => F a s γ K
def T_ref01_Compare  : CallK := noneK
def L_ref01_Compare  : LoopK := noneL
def Sp.B_ref01_Compare  (v_a0 : Int) (v_a1 : Int) (v_a2 : ByteArray) (v_b0 : Int) (v_b1 : Int) (v_b2 : ByteArray) (γ : Type) (K : Int → Option γ) : Option γ := bif decide (v_a0 < v_b0) then K (-1) else bif decide (v_a0 = v_b0) then bif decide (v_a1 < v_b1) then K (-1) else bif decide (v_a1 = v_b1) then bif Op.bytesLess (ByteArray.data v_a2).1 (ByteArray.data v_b2).1 then K (-1) else bif decide (v_a0 = v_b0) && (decide (v_a1 = v_b1) && (decide (v_a2 = v_b2) && true)) then K 0 else K 1 else bif decide (v_a0 = v_b0) && (decide (v_a1 = v_b1) && (decide (v_a2 = v_b2) && true)) then K 0 else K 1 else bif decide (v_a0 = v_b0) && (decide (v_a1 = v_b1) && (decide (v_a2 = v_b2) && true)) then K 0 else K 1
theorem e_ref01_Compare (p : Par)  (v_a0 : Int) (v_a1 : Int) (v_a2 : ByteArray) (v_b0 : Int) (v_b1 : Int) (v_b2 : ByteArray) (γ : Type) (K : List Ent × Sig → Option γ) : evFK (cfg p) (T_ref01_Compare ) (L_ref01_Compare ) 20 [AVal.agg [(Dat.int IntKind.i64 v_a0, Own.none), (Dat.int IntKind.i64 v_a1, Own.none), (Dat.str v_a2, Own.none)], AVal.agg [(Dat.int IntKind.i64 v_b0, Own.none), (Dat.int IntKind.i64 v_b1, Own.none), (Dat.str v_b2, Own.none)]] [] γ K = Sp.B_ref01_Compare  v_a0 v_a1 v_a2 v_b0 v_b1 v_b2 γ (fun r0 => K ([(AVal.dat (Dat.int IntKind.i64 r0), Own.none)], [])) := by kernel_rfl
def Sp.ref01_Compare : Ty_ref01_Compare := Sp.B_ref01_Compare 
theorem E_ref01_Compare (p : Par) {F : Ent3} (hF : EntOk (cfg p) 20 F) : EntOk (cfg p) 20 (P_ref01_Compare Sp.ref01_Compare F) := by
  intro a s γ K q h
  unfold P_ref01_Compare at h
  split at h
  · exact body_ok (tab_nil _) rfl ((e_ref01_Compare p  _ _ _ _ _ _ _ _).trans h)
  · exact hF _ _ _ _ _ h
abbrev Ty_ref01_known : Type 1 := Int → Int → ByteArray → Int → Int → ByteArray → (γ : Type) → (Bool → Option γ) → Option γ
def P_ref01_known (X : Ty_ref01_known) (F : Ent3) : Ent3 := fun a s γ K => match a, s with
  | [AVal.agg [(Dat.int IntKind.i64 v_a0, Own.none), (Dat.int IntKind.i64 v_a1, Own.none), (Dat.str v_a2, Own.none)], AVal.agg [(Dat.int IntKind.i64 v_b0, Own.none), (Dat.int IntKind.i64 v_b1, Own.none), (Dat.str v_b2, Own.none)]], [] => X v_a0 v_a1 v_a2 v_b0 v_b1 v_b2 γ (fun r0 => K ([(AVal.dat (Dat.bool r0), Own.none)], []))
  | a, s => F a s γ K
def T_ref01_known (x_ref01_Check : Ty_ref01_Check) : CallK := (addK noneK 8 (P_ref01_Check x_ref01_Check none3))
def L_ref01_known (x_ref01_Check : Ty_ref01_Check) : LoopK := noneL
def Sp.B_ref01_known (x_ref01_Check : Ty_ref01_Check) (v_a0 : Int) (v_a1 : Int) (v_a2 : ByteArray) (v_b0 : Int) (v_b1 : Int) (v_b2 : ByteArray) (γ : Type) (K : Bool → Option γ) : Option γ := x_ref01_Check v_a0 v_a1 v_a2 γ fun (z8 : Bool) => bif z8 then x_ref01_Check v_b0 v_b1 v_b2 γ fun (z9 : Bool) => bif z9 then bif !decide (v_a0 = 0) then K !decide (v_b0 = 0) else K false else K false else K false
theorem e_ref01_known (p : Par) (x_ref01_Check : Ty_ref01_Check) (v_a0 : Int) (v_a1 : Int) (v_a2 : ByteArray) (v_b0 : Int) (v_b1 : Int) (v_b2 : ByteArray) (γ : Type) (K : List Ent × Sig → Option γ) : evFK (cfg p) (T_ref01_known x_ref01_Check) (L_ref01_known x_ref01_Check) 39 [AVal.agg [(Dat.int IntKind.i64 v_a0, Own.none), (Dat.int IntKind.i64 v_a1, Own.none), (Dat.str v_a2, Own.none)], AVal.agg [(Dat.int IntKind.i64 v_b0, Own.none), (Dat.int IntKind.i64 v_b1, Own.none), (Dat.str v_b2, Own.none)]] [] γ K = Sp.B_ref01_known x_ref01_Check v_a0 v_a1 v_a2 v_b0 v_b1 v_b2 γ (fun r0 => K ([(AVal.dat (Dat.bool r0), Own.none)], [])) := by kernel_rfl
def Sp.ref01_known : Ty_ref01_known := Sp.B_ref01_known Sp.ref01_Check
theorem E_ref01_known (p : Par) {F : Ent3} (hF : EntOk (cfg p) 39 F) : EntOk (cfg p) 39 (P_ref01_known Sp.ref01_known F) := by
  intro a s γ K q h
  unfold P_ref01_known at h
  split at h
  · exact body_ok (tab_call (tab_nil _) (E_ref01_Check p (ent_none _ _))) rfl ((e_ref01_known p _ _ _ _ _ _ _ _ _).trans h)
  · exact hF _ _ _ _ _ h
abbrev Ty_ref01_truth : Type 1 := Bool → (γ : Type) → (Int → Option γ) → Option γ
def P_ref01_truth (X : Ty_ref01_truth) (F : Ent3) : Ent3 := fun a s γ K => match a, s with
  | [AVal.dat (Dat.bool v_is)], [] => X v_is γ (fun r0 => K ([(AVal.dat (Dat.int IntKind.i64 r0), Own.none)], []))
  | a, s => F a s γ K
def T_ref01_truth  : CallK := noneK
def L_ref01_truth  : LoopK := noneL
def Sp.B_ref01_truth  (v_is : Bool) (γ : Type) (K : Int → Option γ) : Option γ := bif v_is then K 1 else K 0
theorem e_ref01_truth (p : Par)  (v_is : Bool) (γ : Type) (K : List Ent × Sig → Option γ) : evFK (cfg p) (T_ref01_truth ) (L_ref01_truth ) 40 [AVal.dat (Dat.bool v_is)] [] γ K = Sp.B_ref01_truth  v_is γ (fun r0 => K ([(AVal.dat (Dat.int IntKind.i64 r0), Own.none)], [])) := by kernel_rfl
def Sp.ref01_truth : Ty_ref01_truth := Sp.B_ref01_truth 
theorem E_ref01_truth (p : Par) {F : Ent3} (hF : EntOk (cfg p) 40 F) : EntOk (cfg p) 40 (P_ref01_truth Sp.ref01_truth F) := by
  intro a s γ K q h
  unfold P_ref01_truth at h
  split at h
  · exact body_ok (tab_nil _) rfl ((e_ref01_truth p  _ _ _).trans h)
  · exact hF _ _ _ _ _ h
abbrev Ty_ref01_Equal : Type 1 := Int → Int → ByteArray → Int → Int → ByteArray → (γ : Type) → (Int → Option γ) → Option γ
def P_ref01_Equal (X : Ty_ref01_Equal) (F : Ent3) : Ent3 := fun a s γ K => match a, s with
  | [AVal.agg [(Dat.int IntKind.i64 v_a0, Own.none), (Dat.int IntKind.i64 v_a1, Own.none), (Dat.str v_a2, Own.none)], AVal.agg [(Dat.int IntKind.i64 v_b0, Own.none), (Dat.int IntKind.i64 v_b1, Own.none), (Dat.str v_b2, Own.none)]], [] => X v_a0 v_a1 v_a2 v_b0 v_b1 v_b2 γ (fun r0 => K ([(AVal.dat (Dat.int IntKind.i64 r0), Own.none)], []))
  | a, s => F a s γ K
def T_ref01_Equal (x_ref01_known : Ty_ref01_known) (x_ref01_truth : Ty_ref01_truth) : CallK := (addK (addK noneK 39 (P_ref01_known x_ref01_known none3)) 40 (P_ref01_truth x_ref01_truth none3))
def L_ref01_Equal (x_ref01_known : Ty_ref01_known) (x_ref01_truth : Ty_ref01_truth) : LoopK := noneL
def Sp.B_ref01_Equal (x_ref01_known : Ty_ref01_known) (x_ref01_truth : Ty_ref01_truth) (v_a0 : Int) (v_a1 : Int) (v_a2 : ByteArray) (v_b0 : Int) (v_b1 : Int) (v_b2 : ByteArray) (γ : Type) (K : Int → Option γ) : Option γ := x_ref01_known v_a0 v_a1 v_a2 v_b0 v_b1 v_b2 γ fun (z8 : Bool) => bif !z8 then K 2 else x_ref01_truth (decide (v_a0 = v_b0) && (decide (v_a1 = v_b1) && (decide (v_a2 = v_b2) && true))) γ fun (z9 : Int) => K z9
theorem e_ref01_Equal (p : Par) (x_ref01_known : Ty_ref01_known) (x_ref01_truth : Ty_ref01_truth) (v_a0 : Int) (v_a1 : Int) (v_a2 : ByteArray) (v_b0 : Int) (v_b1 : Int) (v_b2 : ByteArray) (γ : Type) (K : List Ent × Sig → Option γ) : evFK (cfg p) (T_ref01_Equal x_ref01_known x_ref01_truth) (L_ref01_Equal x_ref01_known x_ref01_truth) 22 [AVal.agg [(Dat.int IntKind.i64 v_a0, Own.none), (Dat.int IntKind.i64 v_a1, Own.none), (Dat.str v_a2, Own.none)], AVal.agg [(Dat.int IntKind.i64 v_b0, Own.none), (Dat.int IntKind.i64 v_b1, Own.none), (Dat.str v_b2, Own.none)]] [] γ K = Sp.B_ref01_Equal x_ref01_known x_ref01_truth v_a0 v_a1 v_a2 v_b0 v_b1 v_b2 γ (fun r0 => K ([(AVal.dat (Dat.int IntKind.i64 r0), Own.none)], [])) := by kernel_rfl
def Sp.ref01_Equal : Ty_ref01_Equal := Sp.B_ref01_Equal Sp.ref01_known Sp.ref01_truth
theorem E_ref01_Equal (p : Par) {F : Ent3} (hF : EntOk (cfg p) 22 F) : EntOk (cfg p) 22 (P_ref01_Equal Sp.ref01_Equal F) := by
  intro a s γ K q h
  unfold P_ref01_Equal at h
  split at h
  · exact body_ok (tab_call (tab_call (tab_nil _) (E_ref01_known p (ent_none _ _))) (E_ref01_truth p (ent_none _ _))) rfl ((e_ref01_Equal p _ _ _ _ _ _ _ _ _ _).trans h)
  · exact hF _ _ _ _ _ h
abbrev Ty_ref01_Less : Type 1 := Int → Int → ByteArray → Int → Int → ByteArray → (γ : Type) → (Int → Option γ) → Option γ
def P_ref01_Less (X : Ty_ref01_Less) (F : Ent3) : Ent3 := fun a s γ K => match a, s with
  | [AVal.agg [(Dat.int IntKind.i64 v_a0, Own.none), (Dat.int IntKind.i64 v_a1, Own.none), (Dat.str v_a2, Own.none)], AVal.agg [(Dat.int IntKind.i64 v_b0, Own.none), (Dat.int IntKind.i64 v_b1, Own.none), (Dat.str v_b2, Own.none)]], [] => X v_a0 v_a1 v_a2 v_b0 v_b1 v_b2 γ (fun r0 => K ([(AVal.dat (Dat.int IntKind.i64 r0), Own.none)], []))
  | a, s => F a s γ K
def T_ref01_Less (x_ref01_known : Ty_ref01_known) (x_ref01_Compare : Ty_ref01_Compare) (x_ref01_truth : Ty_ref01_truth) : CallK := (addK (addK (addK noneK 39 (P_ref01_known x_ref01_known none3)) 20 (P_ref01_Compare x_ref01_Compare none3)) 40 (P_ref01_truth x_ref01_truth none3))
def L_ref01_Less (x_ref01_known : Ty_ref01_known) (x_ref01_Compare : Ty_ref01_Compare) (x_ref01_truth : Ty_ref01_truth) : LoopK := noneL
def Sp.B_ref01_Less (x_ref01_known : Ty_ref01_known) (x_ref01_Compare : Ty_ref01_Compare) (x_ref01_truth : Ty_ref01_truth) (v_a0 : Int) (v_a1 : Int) (v_a2 : ByteArray) (v_b0 : Int) (v_b1 : Int) (v_b2 : ByteArray) (γ : Type) (K : Int → Option γ) : Option γ := x_ref01_known v_a0 v_a1 v_a2 v_b0 v_b1 v_b2 γ fun (z8 : Bool) => bif !z8 then K 2 else bif decide (v_a0 = v_b0) then x_ref01_Compare v_a0 v_a1 v_a2 v_b0 v_b1 v_b2 γ fun (z9 : Int) => x_ref01_truth (decide (z9 < 0)) γ fun (z10 : Int) => K z10 else x_ref01_truth false γ fun (z11 : Int) => K z11
theorem e_ref01_Less (p : Par) (x_ref01_known : Ty_ref01_known) (x_ref01_Compare : Ty_ref01_Compare) (x_ref01_truth : Ty_ref01_truth) (v_a0 : Int) (v_a1 : Int) (v_a2 : ByteArray) (v_b0 : Int) (v_b1 : Int) (v_b2 : ByteArray) (γ : Type) (K : List Ent × Sig → Option γ) : evFK (cfg p) (T_ref01_Less x_ref01_known x_ref01_Compare x_ref01_truth) (L_ref01_Less x_ref01_known x_ref01_Compare x_ref01_truth) 24 [AVal.agg [(Dat.int IntKind.i64 v_a0, Own.none), (Dat.int IntKind.i64 v_a1, Own.none), (Dat.str v_a2, Own.none)], AVal.agg [(Dat.int IntKind.i64 v_b0, Own.none), (Dat.int IntKind.i64 v_b1, Own.none), (Dat.str v_b2, Own.none)]] [] γ K = Sp.B_ref01_Less x_ref01_known x_ref01_Compare x_ref01_truth v_a0 v_a1 v_a2 v_b0 v_b1 v_b2 γ (fun r0 => K ([(AVal.dat (Dat.int IntKind.i64 r0), Own.none)], [])) := by kernel_rfl
def Sp.ref01_Less : Ty_ref01_Less := Sp.B_ref01_Less Sp.ref01_known Sp.ref01_Compare Sp.ref01_truth
theorem E_ref01_Less (p : Par) {F : Ent3} (hF : EntOk (cfg p) 24 F) : EntOk (cfg p) 24 (P_ref01_Less Sp.ref01_Less F) := by
  intro a s γ K q h
  unfold P_ref01_Less at h
  split at h
  · exact body_ok (tab_call (tab_call (tab_call (tab_nil _) (E_ref01_known p (ent_none _ _))) (E_ref01_Compare p (ent_none _ _))) (E_ref01_truth p (ent_none _ _))) rfl ((e_ref01_Less p _ _ _ _ _ _ _ _ _ _ _).trans h)
  · exact hF _ _ _ _ _ h
abbrev Ty_ref01_Truth : Type 1 := Int → Int → ByteArray → (γ : Type) → (Int → Option γ) → Option γ
def P_ref01_Truth (X : Ty_ref01_Truth) (F : Ent3) : Ent3 := fun a s γ K => match a, s with
  | [AVal.agg [(Dat.int IntKind.i64 v_v0, Own.none), (Dat.int IntKind.i64 v_v1, Own.none), (Dat.str v_v2, Own.none)]], [] => X v_v0 v_v1 v_v2 γ (fun r0 => K ([(AVal.dat (Dat.int IntKind.i64 r0), Own.none)], []))
  | a, s => F a s γ K
def T_ref01_Truth (x_ref01_Check : Ty_ref01_Check) : CallK := (addK noneK 8 (P_ref01_Check x_ref01_Check none3))
def L_ref01_Truth (x_ref01_Check : Ty_ref01_Check) : LoopK := noneL
def Sp.B_ref01_Truth (x_ref01_Check : Ty_ref01_Check) (v_v0 : Int) (v_v1 : Int) (v_v2 : ByteArray) (γ : Type) (K : Int → Option γ) : Option γ := x_ref01_Check v_v0 v_v1 v_v2 γ fun (z5 : Bool) => bif !z5 then K 2 else bif !decide (v_v0 = 1) then K 2 else K v_v1
theorem e_ref01_Truth (p : Par) (x_ref01_Check : Ty_ref01_Check) (v_v0 : Int) (v_v1 : Int) (v_v2 : ByteArray) (γ : Type) (K : List Ent × Sig → Option γ) : evFK (cfg p) (T_ref01_Truth x_ref01_Check) (L_ref01_Truth x_ref01_Check) 26 [AVal.agg [(Dat.int IntKind.i64 v_v0, Own.none), (Dat.int IntKind.i64 v_v1, Own.none), (Dat.str v_v2, Own.none)]] [] γ K = Sp.B_ref01_Truth x_ref01_Check v_v0 v_v1 v_v2 γ (fun r0 => K ([(AVal.dat (Dat.int IntKind.i64 r0), Own.none)], [])) := by kernel_rfl
def Sp.ref01_Truth : Ty_ref01_Truth := Sp.B_ref01_Truth Sp.ref01_Check
theorem E_ref01_Truth (p : Par) {F : Ent3} (hF : EntOk (cfg p) 26 F) : EntOk (cfg p) 26 (P_ref01_Truth Sp.ref01_Truth F) := by
  intro a s γ K q h
  unfold P_ref01_Truth at h
  split at h
  · exact body_ok (tab_call (tab_nil _) (E_ref01_Check p (ent_none _ _))) rfl ((e_ref01_Truth p _ _ _ _ _ _).trans h)
  · exact hF _ _ _ _ _ h
abbrev Ty_law01_ValueCompares : Type 1 := Int → Int → ByteArray → Int → Int → ByteArray → (γ : Type) → (Bool → Option γ) → Option γ
def P_law01_ValueCompares (X : Ty_law01_ValueCompares) (F : Ent3) : Ent3 := fun a s γ K => match a, s with
  | [AVal.agg [(Dat.int IntKind.i64 v_a0, Own.none), (Dat.int IntKind.i64 v_a1, Own.none), (Dat.str v_a2, Own.none)], AVal.agg [(Dat.int IntKind.i64 v_b0, Own.none), (Dat.int IntKind.i64 v_b1, Own.none), (Dat.str v_b2, Own.none)]], [] => X v_a0 v_a1 v_a2 v_b0 v_b1 v_b2 γ (fun r0 => K ([(AVal.dat (Dat.bool r0), Own.none)], []))
  | a, s => F a s γ K
def T_law01_ValueCompares (x_law01_lives : Ty_law01_lives) (x_value_Compare : Ty_value_Compare) (x_ref01_Compare : Ty_ref01_Compare) (x_value_Equal : Ty_value_Equal) (x_ref01_Equal : Ty_ref01_Equal) (x_value_Less : Ty_value_Less) (x_ref01_Less : Ty_ref01_Less) (x_value_Truth : Ty_value_Truth) (x_ref01_Truth : Ty_ref01_Truth) : CallK := (addK (addK (addK (addK (addK (addK (addK (addK (addK noneK 7 (P_law01_lives x_law01_lives none3)) 19 (P_value_Compare x_value_Compare none3)) 20 (P_ref01_Compare x_ref01_Compare none3)) 21 (P_value_Equal x_value_Equal none3)) 22 (P_ref01_Equal x_ref01_Equal none3)) 23 (P_value_Less x_value_Less none3)) 24 (P_ref01_Less x_ref01_Less none3)) 25 (P_value_Truth x_value_Truth none3)) 26 (P_ref01_Truth x_ref01_Truth none3))
def L_law01_ValueCompares (x_law01_lives : Ty_law01_lives) (x_value_Compare : Ty_value_Compare) (x_ref01_Compare : Ty_ref01_Compare) (x_value_Equal : Ty_value_Equal) (x_ref01_Equal : Ty_ref01_Equal) (x_value_Less : Ty_value_Less) (x_ref01_Less : Ty_ref01_Less) (x_value_Truth : Ty_value_Truth) (x_ref01_Truth : Ty_ref01_Truth) : LoopK := noneL
def Sp.B_law01_ValueCompares (x_law01_lives : Ty_law01_lives) (x_value_Compare : Ty_value_Compare) (x_ref01_Compare : Ty_ref01_Compare) (x_value_Equal : Ty_value_Equal) (x_ref01_Equal : Ty_ref01_Equal) (x_value_Less : Ty_value_Less) (x_ref01_Less : Ty_ref01_Less) (x_value_Truth : Ty_value_Truth) (x_ref01_Truth : Ty_ref01_Truth) (v_a0 : Int) (v_a1 : Int) (v_a2 : ByteArray) (v_b0 : Int) (v_b1 : Int) (v_b2 : ByteArray) (γ : Type) (K : Bool → Option γ) : Option γ := x_law01_lives γ fun (z8 : Bool) => bif z8 then x_value_Compare v_a0 v_a1 v_a2 v_b0 v_b1 v_b2 γ fun (z9 : Int) => x_ref01_Compare v_a0 v_a1 v_a2 v_b0 v_b1 v_b2 γ fun (z10 : Int) => bif decide (z9 = z10) then x_value_Equal v_a0 v_a1 v_a2 v_b0 v_b1 v_b2 γ fun (z11 : Int) => x_ref01_Equal v_a0 v_a1 v_a2 v_b0 v_b1 v_b2 γ fun (z12 : Int) => bif decide (z11 = z12) then x_value_Less v_a0 v_a1 v_a2 v_b0 v_b1 v_b2 γ fun (z13 : Int) => x_ref01_Less v_a0 v_a1 v_a2 v_b0 v_b1 v_b2 γ fun (z14 : Int) => bif decide (z13 = z14) then x_value_Truth v_a0 v_a1 v_a2 γ fun (z15 : Int) => x_ref01_Truth v_a0 v_a1 v_a2 γ fun (z16 : Int) => K (decide (z15 = z16)) else K false else K false else K false else K false
theorem e_law01_ValueCompares (p : Par) (x_law01_lives : Ty_law01_lives) (x_value_Compare : Ty_value_Compare) (x_ref01_Compare : Ty_ref01_Compare) (x_value_Equal : Ty_value_Equal) (x_ref01_Equal : Ty_ref01_Equal) (x_value_Less : Ty_value_Less) (x_ref01_Less : Ty_ref01_Less) (x_value_Truth : Ty_value_Truth) (x_ref01_Truth : Ty_ref01_Truth) (v_a0 : Int) (v_a1 : Int) (v_a2 : ByteArray) (v_b0 : Int) (v_b1 : Int) (v_b2 : ByteArray) (γ : Type) (K : List Ent × Sig → Option γ) : evFK (cfg p) (T_law01_ValueCompares x_law01_lives x_value_Compare x_ref01_Compare x_value_Equal x_ref01_Equal x_value_Less x_ref01_Less x_value_Truth x_ref01_Truth) (L_law01_ValueCompares x_law01_lives x_value_Compare x_ref01_Compare x_value_Equal x_ref01_Equal x_value_Less x_ref01_Less x_value_Truth x_ref01_Truth) 4 [AVal.agg [(Dat.int IntKind.i64 v_a0, Own.none), (Dat.int IntKind.i64 v_a1, Own.none), (Dat.str v_a2, Own.none)], AVal.agg [(Dat.int IntKind.i64 v_b0, Own.none), (Dat.int IntKind.i64 v_b1, Own.none), (Dat.str v_b2, Own.none)]] [] γ K = Sp.B_law01_ValueCompares x_law01_lives x_value_Compare x_ref01_Compare x_value_Equal x_ref01_Equal x_value_Less x_ref01_Less x_value_Truth x_ref01_Truth v_a0 v_a1 v_a2 v_b0 v_b1 v_b2 γ (fun r0 => K ([(AVal.dat (Dat.bool r0), Own.none)], [])) := by kernel_rfl
def Sp.law01_ValueCompares : Ty_law01_ValueCompares := Sp.B_law01_ValueCompares Sp.law01_lives Sp.value_Compare Sp.ref01_Compare Sp.value_Equal Sp.ref01_Equal Sp.value_Less Sp.ref01_Less Sp.value_Truth Sp.ref01_Truth
theorem E_law01_ValueCompares (p : Par) {F : Ent3} (hF : EntOk (cfg p) 4 F) : EntOk (cfg p) 4 (P_law01_ValueCompares Sp.law01_ValueCompares F) := by
  intro a s γ K q h
  unfold P_law01_ValueCompares at h
  split at h
  · exact body_ok (tab_call (tab_call (tab_call (tab_call (tab_call (tab_call (tab_call (tab_call (tab_call (tab_nil _) (E_law01_lives p (ent_none _ _))) (E_value_Compare p (ent_none _ _))) (E_ref01_Compare p (ent_none _ _))) (E_value_Equal p (ent_none _ _))) (E_ref01_Equal p (ent_none _ _))) (E_value_Less p (ent_none _ _))) (E_ref01_Less p (ent_none _ _))) (E_value_Truth p (ent_none _ _))) (E_ref01_Truth p (ent_none _ _))) rfl ((e_law01_ValueCompares p _ _ _ _ _ _ _ _ _ _ _ _ _ _ _ _ _).trans h)
  · exact hF _ _ _ _ _ h
abbrev Ty_law01_ValueOrders : Type 1 := Int → Int → ByteArray → Int → Int → ByteArray → Int → Int → ByteArray → (γ : Type) → (Bool → Option γ) → Option γ
def P_law01_ValueOrders (X : Ty_law01_ValueOrders) (F : Ent3) : Ent3 := fun a s γ K => match a, s with
  | [AVal.agg [(Dat.int IntKind.i64 v_a0, Own.none), (Dat.int IntKind.i64 v_a1, Own.none), (Dat.str v_a2, Own.none)], AVal.agg [(Dat.int IntKind.i64 v_b0, Own.none), (Dat.int IntKind.i64 v_b1, Own.none), (Dat.str v_b2, Own.none)], AVal.agg [(Dat.int IntKind.i64 v_c0, Own.none), (Dat.int IntKind.i64 v_c1, Own.none), (Dat.str v_c2, Own.none)]], [] => X v_a0 v_a1 v_a2 v_b0 v_b1 v_b2 v_c0 v_c1 v_c2 γ (fun r0 => K ([(AVal.dat (Dat.bool r0), Own.none)], []))
  | a, s => F a s γ K
def T_law01_ValueOrders (x_value_Compare : Ty_value_Compare) (x_law01_lives : Ty_law01_lives) : CallK := (addK (addK noneK 19 (P_value_Compare x_value_Compare none3)) 7 (P_law01_lives x_law01_lives none3))
def L_law01_ValueOrders (x_value_Compare : Ty_value_Compare) (x_law01_lives : Ty_law01_lives) : LoopK := noneL
def Sp.B_law01_ValueOrders (x_value_Compare : Ty_value_Compare) (x_law01_lives : Ty_law01_lives) (v_a0 : Int) (v_a1 : Int) (v_a2 : ByteArray) (v_b0 : Int) (v_b1 : Int) (v_b2 : ByteArray) (v_c0 : Int) (v_c1 : Int) (v_c2 : ByteArray) (γ : Type) (K : Bool → Option γ) : Option γ := x_value_Compare v_a0 v_a1 v_a2 v_b0 v_b1 v_b2 γ fun (z11 : Int) => x_value_Compare v_b0 v_b1 v_b2 v_c0 v_c1 v_c2 γ fun (z12 : Int) => x_value_Compare v_a0 v_a1 v_a2 v_c0 v_c1 v_c2 γ fun (z13 : Int) => x_law01_lives γ fun (z14 : Bool) => bif z14 then x_value_Compare v_b0 v_b1 v_b2 v_a0 v_a1 v_a2 γ fun (z15 : Int) => bif decide (z15 = IntKind.wrap IntKind.i64 (0 - z11)) then bif decide (z11 = 0) == (decide (v_a0 = v_b0) && (decide (v_a1 = v_b1) && (decide (v_a2 = v_b2) && true))) then bif decide (0 < z11) then K true else bif decide (0 < z12) then K true else bif decide (z13 ≤ 0) then bif decide (z11 = 0) then bif decide (z12 = 0) then K true else K (decide (z13 < 0)) else K (decide (z13 < 0)) else K false else K false else K false else K false
theorem e_law01_ValueOrders (p : Par) (x_value_Compare : Ty_value_Compare) (x_law01_lives : Ty_law01_lives) (v_a0 : Int) (v_a1 : Int) (v_a2 : ByteArray) (v_b0 : Int) (v_b1 : Int) (v_b2 : ByteArray) (v_c0 : Int) (v_c1 : Int) (v_c2 : ByteArray) (γ : Type) (K : List Ent × Sig → Option γ) : evFK (cfg p) (T_law01_ValueOrders x_value_Compare x_law01_lives) (L_law01_ValueOrders x_value_Compare x_law01_lives) 5 [AVal.agg [(Dat.int IntKind.i64 v_a0, Own.none), (Dat.int IntKind.i64 v_a1, Own.none), (Dat.str v_a2, Own.none)], AVal.agg [(Dat.int IntKind.i64 v_b0, Own.none), (Dat.int IntKind.i64 v_b1, Own.none), (Dat.str v_b2, Own.none)], AVal.agg [(Dat.int IntKind.i64 v_c0, Own.none), (Dat.int IntKind.i64 v_c1, Own.none), (Dat.str v_c2, Own.none)]] [] γ K = Sp.B_law01_ValueOrders x_value_Compare x_law01_lives v_a0 v_a1 v_a2 v_b0 v_b1 v_b2 v_c0 v_c1 v_c2 γ (fun r0 => K ([(AVal.dat (Dat.bool r0), Own.none)], [])) := by kernel_rfl
def Sp.law01_ValueOrders : Ty_law01_ValueOrders := Sp.B_law01_ValueOrders Sp.value_Compare Sp.law01_lives
theorem E_law01_ValueOrders (p : Par) {F : Ent3} (hF : EntOk (cfg p) 5 F) : EntOk (cfg p) 5 (P_law01_ValueOrders Sp.law01_ValueOrders F) := by
  intro a s γ K q h
  unfold P_law01_ValueOrders at h
  split at h
  · exact body_ok (tab_call (tab_call (tab_nil _) (E_value_Compare p (ent_none _ _))) (E_law01_lives p (ent_none _ _))) rfl ((e_law01_ValueOrders p _ _ _ _ _ _ _ _ _ _ _ _ _).trans h)
  · exact hF _ _ _ _ _ h
abbrev Ty_law01_ValueMorgans : Type 1 := Int → Int → Int → (γ : Type) → (Bool → Option γ) → Option γ
def P_law01_ValueMorgans (X : Ty_law01_ValueMorgans) (F : Ent3) : Ent3 := fun a s γ K => match a, s with
  | [AVal.dat (Dat.int IntKind.i64 v_a), AVal.dat (Dat.int IntKind.i64 v_b), AVal.dat (Dat.int IntKind.i64 v_c)], [] => X v_a v_b v_c γ (fun r0 => K ([(AVal.dat (Dat.bool r0), Own.none)], []))
  | a, s => F a s γ K
def T_law01_ValueMorgans (x_law01_lives : Ty_law01_lives) (x_value_And : Ty_value_And) (x_value_Not : Ty_value_Not) (x_value_Or : Ty_value_Or) (x_value_Of : Ty_value_Of) (x_value_Truth : Ty_value_Truth) : CallK := (addK (addK (addK (addK (addK (addK noneK 7 (P_law01_lives x_law01_lives none3)) 28 (P_value_And x_value_And none3)) 27 (P_value_Not x_value_Not none3)) 29 (P_value_Or x_value_Or none3)) 30 (P_value_Of x_value_Of none3)) 25 (P_value_Truth x_value_Truth none3))
def L_law01_ValueMorgans (x_law01_lives : Ty_law01_lives) (x_value_And : Ty_value_And) (x_value_Not : Ty_value_Not) (x_value_Or : Ty_value_Or) (x_value_Of : Ty_value_Of) (x_value_Truth : Ty_value_Truth) : LoopK := noneL
def Sp.B_law01_ValueMorgans (x_law01_lives : Ty_law01_lives) (x_value_And : Ty_value_And) (x_value_Not : Ty_value_Not) (x_value_Or : Ty_value_Or) (x_value_Of : Ty_value_Of) (x_value_Truth : Ty_value_Truth) (v_a : Int) (v_b : Int) (v_c : Int) (γ : Type) (K : Bool → Option γ) : Option γ := bif decide (v_a < 0) then x_law01_lives γ fun (z5 : Bool) => K z5 else bif decide (2 < v_a) then x_law01_lives γ fun (z6 : Bool) => K z6 else bif decide (v_b < 0) then x_law01_lives γ fun (z7 : Bool) => K z7 else bif decide (2 < v_b) then x_law01_lives γ fun (z8 : Bool) => K z8 else bif decide (v_c < 0) then x_law01_lives γ fun (z9 : Bool) => K z9 else bif decide (2 < v_c) then x_law01_lives γ fun (z10 : Bool) => K z10 else x_law01_lives γ fun (z11 : Bool) => bif z11 then x_value_And v_a v_b γ fun (z12 : Int) => x_value_Not z12 γ fun (z13 : Int) => x_value_Not v_a γ fun (z14 : Int) => x_value_Not v_b γ fun (z15 : Int) => x_value_Or z14 z15 γ fun (z16 : Int) => bif decide (z13 = z16) then x_value_Or v_b v_c γ fun (z17 : Int) => x_value_And v_a z17 γ fun (z18 : Int) => x_value_And v_a v_b γ fun (z19 : Int) => x_value_And v_a v_c γ fun (z20 : Int) => x_value_Or z19 z20 γ fun (z21 : Int) => bif decide (z18 = z21) then x_value_And v_a v_b γ fun (z22 : Int) => x_value_And z22 v_c γ fun (z23 : Int) => x_value_And v_b v_c γ fun (z24 : Int) => x_value_And v_a z24 γ fun (z25 : Int) => bif decide (z23 = z25) then x_value_Not v_a γ fun (z26 : Int) => x_value_Not z26 γ fun (z27 : Int) => bif decide (z27 = v_a) then x_value_Of v_a γ fun (z28 z29 : Int) (z30 : ByteArray) => x_value_Truth z28 z29 z30 γ fun (z31 : Int) => K (decide (z31 = v_a)) else K false else K false else K false else K false else K false
theorem e_law01_ValueMorgans (p : Par) (x_law01_lives : Ty_law01_lives) (x_value_And : Ty_value_And) (x_value_Not : Ty_value_Not) (x_value_Or : Ty_value_Or) (x_value_Of : Ty_value_Of) (x_value_Truth : Ty_value_Truth) (v_a : Int) (v_b : Int) (v_c : Int) (γ : Type) (K : List Ent × Sig → Option γ) : evFK (cfg p) (T_law01_ValueMorgans x_law01_lives x_value_And x_value_Not x_value_Or x_value_Of x_value_Truth) (L_law01_ValueMorgans x_law01_lives x_value_And x_value_Not x_value_Or x_value_Of x_value_Truth) 6 [AVal.dat (Dat.int IntKind.i64 v_a), AVal.dat (Dat.int IntKind.i64 v_b), AVal.dat (Dat.int IntKind.i64 v_c)] [] γ K = Sp.B_law01_ValueMorgans x_law01_lives x_value_And x_value_Not x_value_Or x_value_Of x_value_Truth v_a v_b v_c γ (fun r0 => K ([(AVal.dat (Dat.bool r0), Own.none)], [])) := by kernel_rfl
def Sp.law01_ValueMorgans : Ty_law01_ValueMorgans := Sp.B_law01_ValueMorgans Sp.law01_lives Sp.value_And Sp.value_Not Sp.value_Or Sp.value_Of Sp.value_Truth
theorem E_law01_ValueMorgans (p : Par) {F : Ent3} (hF : EntOk (cfg p) 6 F) : EntOk (cfg p) 6 (P_law01_ValueMorgans Sp.law01_ValueMorgans F) := by
  intro a s γ K q h
  unfold P_law01_ValueMorgans at h
  split at h
  · exact body_ok (tab_call (tab_call (tab_call (tab_call (tab_call (tab_call (tab_nil _) (E_law01_lives p (ent_none _ _))) (E_value_And p (ent_none _ _))) (E_value_Not p (ent_none _ _))) (E_value_Or p (ent_none _ _))) (E_value_Of p (ent_none _ _))) (E_value_Truth p (ent_none _ _))) rfl ((e_law01_ValueMorgans p _ _ _ _ _ _ _ _ _ _ _).trans h)
  · exact hF _ _ _ _ _ h
end
end Go.Proofs.YtchijfnciadkkaaDoor

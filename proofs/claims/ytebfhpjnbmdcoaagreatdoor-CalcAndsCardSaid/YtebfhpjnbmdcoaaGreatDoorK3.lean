/- What the functions of this program compute, printed by a program. -/
import Derived.Test.YtebfhpjnbmdcoaaGreatDoorKQ
import Derived.KernelRfl
set_option linter.unusedVariables false
namespace Go.Proofs.YtebfhpjnbmdcoaaGreatDoor
open Go Go.Aev Go.RowKit
noncomputable section
abbrev Ty_law16_large : Type 1 := List (List Dat) → (γ : Type) → (Bool → Option γ) → Option γ
def P_law16_large (X : Ty_law16_large) (F : Ent3) : Ent3 := fun a s γ K => match a, s with
  | [AVal.dat (Dat.sl v_r)], [] => X v_r γ (fun r0 => K ([(AVal.dat (Dat.bool r0), Own.none)], []))
  | a, s => F a s γ K
def T_law16_large  : CallK := noneK
def L_law16_large  : LoopK := noneL
def Sp.B_law16_large  (v_r : List (List Dat)) (γ : Type) (K : Bool → Option γ) : Option γ := K (decide (100 < Int.ofNat (List.length v_r)))
theorem e_law16_large (p : Par)  (v_r : List (List Dat)) (γ : Type) (K : List Ent × Sig → Option γ) : evFK (cfg p) (T_law16_large ) (L_law16_large ) 4 [AVal.dat (Dat.sl v_r)] [] γ K = Sp.B_law16_large  v_r γ (fun r0 => K ([(AVal.dat (Dat.bool r0), Own.none)], [])) := by kernel_rfl
def Sp.law16_large : Ty_law16_large := Sp.B_law16_large 
theorem E_law16_large (p : Par) {F : Ent3} (hF : EntOk (cfg p) 4 F) : EntOk (cfg p) 4 (P_law16_large Sp.law16_large F) := by
  intro a s γ K q h
  unfold P_law16_large at h
  split at h
  · exact body_ok (tab_nil _) rfl ((e_law16_large p  _ _ _).trans h)
  · exact hF _ _ _ _ _ h
abbrev Ty_ref01_Int : Type 1 := Int → (γ : Type) → (Int → Int → ByteArray → Option γ) → Option γ
def P_ref01_Int (X : Ty_ref01_Int) (F : Ent3) : Ent3 := fun a s γ K => match a, s with
  | [AVal.dat (Dat.int IntKind.i64 v_n)], [] => X v_n γ (fun r0 r1 r2 => K ([(AVal.agg [(Dat.int IntKind.i64 r0, Own.none), (Dat.int IntKind.i64 r1, Own.none), (Dat.str r2, Own.none)], Own.none)], []))
  | a, s => F a s γ K
def T_ref01_Int  : CallK := noneK
def L_ref01_Int  : LoopK := noneL
def Sp.B_ref01_Int  (v_n : Int) (γ : Type) (K : Int → Int → ByteArray → Option γ) : Option γ := K 2 v_n (bs [])
theorem e_ref01_Int (p : Par)  (v_n : Int) (γ : Type) (K : List Ent × Sig → Option γ) : evFK (cfg p) (T_ref01_Int ) (L_ref01_Int ) 11 [AVal.dat (Dat.int IntKind.i64 v_n)] [] γ K = Sp.B_ref01_Int  v_n γ (fun r0 r1 r2 => K ([(AVal.agg [(Dat.int IntKind.i64 r0, Own.none), (Dat.int IntKind.i64 r1, Own.none), (Dat.str r2, Own.none)], Own.none)], [])) := by kernel_rfl
def Sp.ref01_Int : Ty_ref01_Int := Sp.B_ref01_Int 
theorem E_ref01_Int (p : Par) {F : Ent3} (hF : EntOk (cfg p) 11 F) : EntOk (cfg p) 11 (P_ref01_Int Sp.ref01_Int F) := by
  intro a s γ K q h
  unfold P_ref01_Int at h
  split at h
  · exact body_ok (tab_nil _) rfl ((e_ref01_Int p  _ _ _).trans h)
  · exact hF _ _ _ _ _ h
abbrev Ty_ref10_Lit : Type 1 := Int → Int → ByteArray → (γ : Type) → (Int → Int → Int → Int → ByteArray → ByteArray → ByteArray → List (List Dat) → Option γ) → Option γ
def P_ref10_Lit (X : Ty_ref10_Lit) (F : Ent3) : Ent3 := fun a s γ K => match a, s with
  | [AVal.agg [(Dat.int IntKind.i64 v_v0, Own.none), (Dat.int IntKind.i64 v_v1, Own.none), (Dat.str v_v2, Own.none)]], [] => X v_v0 v_v1 v_v2 γ (fun r0 r1 r2 r3 r4 r5 r6 r7 => K ([(AVal.agg [(Dat.int IntKind.i64 r0, Own.none), (Dat.int IntKind.i64 r1, Own.none), (Dat.int IntKind.i64 r2, Own.none), (Dat.int IntKind.i64 r3, Own.none), (Dat.str r4, Own.none), (Dat.str r5, Own.none), (Dat.str r6, Own.none), (Dat.sl r7, Own.none)], Own.none)], []))
  | a, s => F a s γ K
def T_ref10_Lit  : CallK := noneK
def L_ref10_Lit  : LoopK := noneL
def Sp.B_ref10_Lit  (v_v0 : Int) (v_v1 : Int) (v_v2 : ByteArray) (γ : Type) (K : Int → Int → Int → Int → ByteArray → ByteArray → ByteArray → List (List Dat) → Option γ) : Option γ := K 1 0 v_v0 v_v1 v_v2 (bs []) (bs []) []
theorem e_ref10_Lit (p : Par)  (v_v0 : Int) (v_v1 : Int) (v_v2 : ByteArray) (γ : Type) (K : List Ent × Sig → Option γ) : evFK (cfg p) (T_ref10_Lit ) (L_ref10_Lit ) 24 [AVal.agg [(Dat.int IntKind.i64 v_v0, Own.none), (Dat.int IntKind.i64 v_v1, Own.none), (Dat.str v_v2, Own.none)]] [] γ K = Sp.B_ref10_Lit  v_v0 v_v1 v_v2 γ (fun r0 r1 r2 r3 r4 r5 r6 r7 => K ([(AVal.agg [(Dat.int IntKind.i64 r0, Own.none), (Dat.int IntKind.i64 r1, Own.none), (Dat.int IntKind.i64 r2, Own.none), (Dat.int IntKind.i64 r3, Own.none), (Dat.str r4, Own.none), (Dat.str r5, Own.none), (Dat.str r6, Own.none), (Dat.sl r7, Own.none)], Own.none)], [])) := by kernel_rfl
def Sp.ref10_Lit : Ty_ref10_Lit := Sp.B_ref10_Lit 
theorem E_ref10_Lit (p : Par) {F : Ent3} (hF : EntOk (cfg p) 24 F) : EntOk (cfg p) 24 (P_ref10_Lit Sp.ref10_Lit F) := by
  intro a s γ K q h
  unfold P_ref10_Lit at h
  split at h
  · exact body_ok (tab_nil _) rfl ((e_ref10_Lit p  _ _ _ _ _).trans h)
  · exact hF _ _ _ _ _ h
abbrev Ty_law16_num : Type 1 := Int → (γ : Type) → (Int → Int → Int → Int → ByteArray → ByteArray → ByteArray → List (List Dat) → Option γ) → Option γ
def P_law16_num (X : Ty_law16_num) (F : Ent3) : Ent3 := fun a s γ K => match a, s with
  | [AVal.dat (Dat.int IntKind.i64 v_n)], [] => X v_n γ (fun r0 r1 r2 r3 r4 r5 r6 r7 => K ([(AVal.agg [(Dat.int IntKind.i64 r0, Own.none), (Dat.int IntKind.i64 r1, Own.none), (Dat.int IntKind.i64 r2, Own.none), (Dat.int IntKind.i64 r3, Own.none), (Dat.str r4, Own.none), (Dat.str r5, Own.none), (Dat.str r6, Own.none), (Dat.sl r7, Own.none)], Own.none)], []))
  | a, s => F a s γ K
def T_law16_num (x_ref01_Int : Ty_ref01_Int) (x_ref10_Lit : Ty_ref10_Lit) : CallK := (addK (addK noneK 11 (P_ref01_Int x_ref01_Int none3)) 24 (P_ref10_Lit x_ref10_Lit none3))
def L_law16_num (x_ref01_Int : Ty_ref01_Int) (x_ref10_Lit : Ty_ref10_Lit) : LoopK := noneL
def Sp.B_law16_num (x_ref01_Int : Ty_ref01_Int) (x_ref10_Lit : Ty_ref10_Lit) (v_n : Int) (γ : Type) (K : Int → Int → Int → Int → ByteArray → ByteArray → ByteArray → List (List Dat) → Option γ) : Option γ := x_ref01_Int v_n γ fun (z3 z4 : Int) (z5 : ByteArray) => x_ref10_Lit z3 z4 z5 γ fun (z6 z7 z8 z9 : Int) (z10 z11 z12 : ByteArray) (z13 : List (List Dat)) => K z6 z7 z8 z9 z10 z11 z12 z13
theorem e_law16_num (p : Par) (x_ref01_Int : Ty_ref01_Int) (x_ref10_Lit : Ty_ref10_Lit) (v_n : Int) (γ : Type) (K : List Ent × Sig → Option γ) : evFK (cfg p) (T_law16_num x_ref01_Int x_ref10_Lit) (L_law16_num x_ref01_Int x_ref10_Lit) 14 [AVal.dat (Dat.int IntKind.i64 v_n)] [] γ K = Sp.B_law16_num x_ref01_Int x_ref10_Lit v_n γ (fun r0 r1 r2 r3 r4 r5 r6 r7 => K ([(AVal.agg [(Dat.int IntKind.i64 r0, Own.none), (Dat.int IntKind.i64 r1, Own.none), (Dat.int IntKind.i64 r2, Own.none), (Dat.int IntKind.i64 r3, Own.none), (Dat.str r4, Own.none), (Dat.str r5, Own.none), (Dat.str r6, Own.none), (Dat.sl r7, Own.none)], Own.none)], [])) := by kernel_rfl
def Sp.law16_num : Ty_law16_num := Sp.B_law16_num Sp.ref01_Int Sp.ref10_Lit
theorem E_law16_num (p : Par) {F : Ent3} (hF : EntOk (cfg p) 14 F) : EntOk (cfg p) 14 (P_law16_num Sp.law16_num F) := by
  intro a s γ K q h
  unfold P_law16_num at h
  split at h
  · exact body_ok (tab_call (tab_call (tab_nil _) (E_ref01_Int p (ent_none _ _))) (E_ref10_Lit p (ent_none _ _))) rfl ((e_law16_num p _ _ _ _ _).trans h)
  · exact hF _ _ _ _ _ h
abbrev Ty_ref10_Op : Type 1 := Int → List (List Dat) → (γ : Type) → (Int → Int → Int → Int → ByteArray → ByteArray → ByteArray → List (List Dat) → Option γ) → Option γ
def P_ref10_Op (X : Ty_ref10_Op) (F : Ent3) : Ent3 := fun a s γ K => match a, s with
  | [AVal.dat (Dat.int IntKind.i64 v_n), AVal.dat (Dat.sl v_l)], [] => X v_n v_l γ (fun r0 r1 r2 r3 r4 r5 r6 r7 => K ([(AVal.agg [(Dat.int IntKind.i64 r0, Own.none), (Dat.int IntKind.i64 r1, Own.none), (Dat.int IntKind.i64 r2, Own.none), (Dat.int IntKind.i64 r3, Own.none), (Dat.str r4, Own.none), (Dat.str r5, Own.none), (Dat.str r6, Own.none), (Dat.sl r7, Own.none)], Own.none)], []))
  | a, s => F a s γ K
def T_ref10_Op  : CallK := noneK
def L_ref10_Op  : LoopK := noneL
def Sp.B_ref10_Op  (v_n : Int) (v_l : List (List Dat)) (γ : Type) (K : Int → Int → Int → Int → ByteArray → ByteArray → ByteArray → List (List Dat) → Option γ) : Option γ := K 3 v_n 0 0 (bs []) (bs []) (bs []) v_l
theorem e_ref10_Op (p : Par)  (v_n : Int) (v_l : List (List Dat)) (γ : Type) (K : List Ent × Sig → Option γ) : evFK (cfg p) (T_ref10_Op ) (L_ref10_Op ) 25 [AVal.dat (Dat.int IntKind.i64 v_n), AVal.dat (Dat.sl v_l)] [] γ K = Sp.B_ref10_Op  v_n v_l γ (fun r0 r1 r2 r3 r4 r5 r6 r7 => K ([(AVal.agg [(Dat.int IntKind.i64 r0, Own.none), (Dat.int IntKind.i64 r1, Own.none), (Dat.int IntKind.i64 r2, Own.none), (Dat.int IntKind.i64 r3, Own.none), (Dat.str r4, Own.none), (Dat.str r5, Own.none), (Dat.str r6, Own.none), (Dat.sl r7, Own.none)], Own.none)], [])) := by kernel_rfl
def Sp.ref10_Op : Ty_ref10_Op := Sp.B_ref10_Op 
theorem E_ref10_Op (p : Par) {F : Ent3} (hF : EntOk (cfg p) 25 F) : EntOk (cfg p) 25 (P_ref10_Op Sp.ref10_Op F) := by
  intro a s γ K q h
  unfold P_ref10_Op at h
  split at h
  · exact body_ok (tab_nil _) rfl ((e_ref10_Op p  _ _ _ _).trans h)
  · exact hF _ _ _ _ _ h
abbrev Ty_law16_op : Type 1 := Int → Int → Int → Int → Int → ByteArray → ByteArray → ByteArray → List (List Dat) → Int → Int → Int → Int → ByteArray → ByteArray → ByteArray → List (List Dat) → (γ : Type) → (Int → Int → Int → Int → ByteArray → ByteArray → ByteArray → List (List Dat) → Option γ) → Option γ
def P_law16_op (X : Ty_law16_op) (F : Ent3) : Ent3 := fun a s γ K => match a, s with
  | [AVal.dat (Dat.int IntKind.i64 v_n), AVal.agg [(Dat.int IntKind.i64 v_a0, Own.none), (Dat.int IntKind.i64 v_a1, Own.none), (Dat.int IntKind.i64 v_a2, Own.none), (Dat.int IntKind.i64 v_a3, Own.none), (Dat.str v_a4, Own.none), (Dat.str v_a5, Own.none), (Dat.str v_a6, Own.none), (Dat.sl v_a7, Own.none)], AVal.agg [(Dat.int IntKind.i64 v_b0, Own.none), (Dat.int IntKind.i64 v_b1, Own.none), (Dat.int IntKind.i64 v_b2, Own.none), (Dat.int IntKind.i64 v_b3, Own.none), (Dat.str v_b4, Own.none), (Dat.str v_b5, Own.none), (Dat.str v_b6, Own.none), (Dat.sl v_b7, Own.none)]], [] => X v_n v_a0 v_a1 v_a2 v_a3 v_a4 v_a5 v_a6 v_a7 v_b0 v_b1 v_b2 v_b3 v_b4 v_b5 v_b6 v_b7 γ (fun r0 r1 r2 r3 r4 r5 r6 r7 => K ([(AVal.agg [(Dat.int IntKind.i64 r0, Own.none), (Dat.int IntKind.i64 r1, Own.none), (Dat.int IntKind.i64 r2, Own.none), (Dat.int IntKind.i64 r3, Own.none), (Dat.str r4, Own.none), (Dat.str r5, Own.none), (Dat.str r6, Own.none), (Dat.sl r7, Own.none)], Own.none)], []))
  | a, s => F a s γ K
def T_law16_op (x_ref10_Op : Ty_ref10_Op) : CallK := (addK noneK 25 (P_ref10_Op x_ref10_Op none3))
def L_law16_op (x_ref10_Op : Ty_ref10_Op) : LoopK := noneL
def Sp.B_law16_op (x_ref10_Op : Ty_ref10_Op) (v_n : Int) (v_a0 : Int) (v_a1 : Int) (v_a2 : Int) (v_a3 : Int) (v_a4 : ByteArray) (v_a5 : ByteArray) (v_a6 : ByteArray) (v_a7 : List (List Dat)) (v_b0 : Int) (v_b1 : Int) (v_b2 : Int) (v_b3 : Int) (v_b4 : ByteArray) (v_b5 : ByteArray) (v_b6 : ByteArray) (v_b7 : List (List Dat)) (γ : Type) (K : Int → Int → Int → Int → ByteArray → ByteArray → ByteArray → List (List Dat) → Option γ) : Option γ := x_ref10_Op v_n [[Dat.int IntKind.i64 v_a0, Dat.int IntKind.i64 v_a1, Dat.int IntKind.i64 v_a2, Dat.int IntKind.i64 v_a3, Dat.str v_a4, Dat.str v_a5, Dat.str v_a6, Dat.sl v_a7], [Dat.int IntKind.i64 v_b0, Dat.int IntKind.i64 v_b1, Dat.int IntKind.i64 v_b2, Dat.int IntKind.i64 v_b3, Dat.str v_b4, Dat.str v_b5, Dat.str v_b6, Dat.sl v_b7]] γ fun (z19 z20 z21 z22 : Int) (z23 z24 z25 : ByteArray) (z26 : List (List Dat)) => K z19 z20 z21 z22 z23 z24 z25 z26
theorem e_law16_op (p : Par) (x_ref10_Op : Ty_ref10_Op) (v_n : Int) (v_a0 : Int) (v_a1 : Int) (v_a2 : Int) (v_a3 : Int) (v_a4 : ByteArray) (v_a5 : ByteArray) (v_a6 : ByteArray) (v_a7 : List (List Dat)) (v_b0 : Int) (v_b1 : Int) (v_b2 : Int) (v_b3 : Int) (v_b4 : ByteArray) (v_b5 : ByteArray) (v_b6 : ByteArray) (v_b7 : List (List Dat)) (γ : Type) (K : List Ent × Sig → Option γ) : evFK (cfg p) (T_law16_op x_ref10_Op) (L_law16_op x_ref10_Op) 13 [AVal.dat (Dat.int IntKind.i64 v_n), AVal.agg [(Dat.int IntKind.i64 v_a0, Own.none), (Dat.int IntKind.i64 v_a1, Own.none), (Dat.int IntKind.i64 v_a2, Own.none), (Dat.int IntKind.i64 v_a3, Own.none), (Dat.str v_a4, Own.none), (Dat.str v_a5, Own.none), (Dat.str v_a6, Own.none), (Dat.sl v_a7, Own.none)], AVal.agg [(Dat.int IntKind.i64 v_b0, Own.none), (Dat.int IntKind.i64 v_b1, Own.none), (Dat.int IntKind.i64 v_b2, Own.none), (Dat.int IntKind.i64 v_b3, Own.none), (Dat.str v_b4, Own.none), (Dat.str v_b5, Own.none), (Dat.str v_b6, Own.none), (Dat.sl v_b7, Own.none)]] [] γ K = Sp.B_law16_op x_ref10_Op v_n v_a0 v_a1 v_a2 v_a3 v_a4 v_a5 v_a6 v_a7 v_b0 v_b1 v_b2 v_b3 v_b4 v_b5 v_b6 v_b7 γ (fun r0 r1 r2 r3 r4 r5 r6 r7 => K ([(AVal.agg [(Dat.int IntKind.i64 r0, Own.none), (Dat.int IntKind.i64 r1, Own.none), (Dat.int IntKind.i64 r2, Own.none), (Dat.int IntKind.i64 r3, Own.none), (Dat.str r4, Own.none), (Dat.str r5, Own.none), (Dat.str r6, Own.none), (Dat.sl r7, Own.none)], Own.none)], [])) := by kernel_rfl
def Sp.law16_op : Ty_law16_op := Sp.B_law16_op Sp.ref10_Op
theorem E_law16_op (p : Par) {F : Ent3} (hF : EntOk (cfg p) 13 F) : EntOk (cfg p) 13 (P_law16_op Sp.law16_op F) := by
  intro a s γ K q h
  unfold P_law16_op at h
  split at h
  · exact body_ok (tab_call (tab_nil _) (E_ref10_Op p (ent_none _ _))) rfl ((e_law16_op p _ _ _ _ _ _ _ _ _ _ _ _ _ _ _ _ _ _ _ _).trans h)
  · exact hF _ _ _ _ _ h
abbrev Ty_value_Check : Type 1 := Int → Int → ByteArray → (γ : Type) → (Int → Option γ) → Option γ
def P_value_Check (X : Ty_value_Check) (F : Ent3) : Ent3 := fun a s γ K => match a, s with
  | [AVal.agg [(Dat.int IntKind.i64 v_v0, Own.none), (Dat.int IntKind.i64 v_v1, Own.none), (Dat.str v_v2, Own.none)]], [] => X v_v0 v_v1 v_v2 γ (fun r0 => K ([(AVal.dat (Dat.int IntKind.i64 r0), Own.none)], []))
  | a, s => F a s γ K
def T_value_Check  : CallK := noneK
def L_value_Check  : LoopK := noneL
def Sp.B_value_Check  (v_v0 : Int) (v_v1 : Int) (v_v2 : ByteArray) (γ : Type) (K : Int → Option γ) : Option γ := bif decide (v_v0 = 0) then bif !(decide (v_v0 = 0) && (decide (v_v1 = 0) && (decide (v_v2 = bs []) && true))) then K 10 else K 0 else bif decide (v_v0 = 1) then bif decide (Int.fdiv v_v1 2 = 0) then bif !decide (v_v2 = bs []) then K 10 else K 0 else K 10 else bif decide (v_v0 = 2) then bif decide (-9007199254740991 ≤ v_v1) then bif decide (v_v1 ≤ 9007199254740991) then bif !decide (v_v2 = bs []) then K 10 else K 0 else K 10 else K 10 else bif decide (v_v0 = 3) then bif decide (v_v1 = 0) then bif !decide (Int.ofNat (ByteArray.size v_v2) ≤ 64) then K 10 else K 0 else K 10 else K 10
theorem e_value_Check (p : Par)  (v_v0 : Int) (v_v1 : Int) (v_v2 : ByteArray) (γ : Type) (K : List Ent × Sig → Option γ) : evFK (cfg p) (T_value_Check ) (L_value_Check ) 39 [AVal.agg [(Dat.int IntKind.i64 v_v0, Own.none), (Dat.int IntKind.i64 v_v1, Own.none), (Dat.str v_v2, Own.none)]] [] γ K = Sp.B_value_Check  v_v0 v_v1 v_v2 γ (fun r0 => K ([(AVal.dat (Dat.int IntKind.i64 r0), Own.none)], [])) := by kernel_rfl
def Sp.value_Check : Ty_value_Check := Sp.B_value_Check 
theorem E_value_Check (p : Par) {F : Ent3} (hF : EntOk (cfg p) 39 F) : EntOk (cfg p) 39 (P_value_Check Sp.value_Check F) := by
  intro a s γ K q h
  unfold P_value_Check at h
  split at h
  · exact body_ok (tab_nil _) rfl ((e_value_Check p  _ _ _ _ _).trans h)
  · exact hF _ _ _ _ _ h
abbrev Ty_expr_literal : Type 1 := Int → Int → Int → Int → ByteArray → ByteArray → ByteArray → List (List Dat) → (γ : Type) → (Bool → Option γ) → Option γ
def P_expr_literal (X : Ty_expr_literal) (F : Ent3) : Ent3 := fun a s γ K => match a, s with
  | [AVal.agg [(Dat.int IntKind.i64 v_e0, Own.none), (Dat.int IntKind.i64 v_e1, Own.none), (Dat.int IntKind.i64 v_e2, Own.none), (Dat.int IntKind.i64 v_e3, Own.none), (Dat.str v_e4, Own.none), (Dat.str v_e5, Own.none), (Dat.str v_e6, Own.none), (Dat.sl v_e7, Own.none)]], [] => X v_e0 v_e1 v_e2 v_e3 v_e4 v_e5 v_e6 v_e7 γ (fun r0 => K ([(AVal.dat (Dat.bool r0), Own.none)], []))
  | a, s => F a s γ K
def T_expr_literal (x_value_Check : Ty_value_Check) : CallK := (addK noneK 39 (P_value_Check x_value_Check none3))
def L_expr_literal (x_value_Check : Ty_value_Check) : LoopK := noneL
def Sp.B_expr_literal (x_value_Check : Ty_value_Check) (v_e0 : Int) (v_e1 : Int) (v_e2 : Int) (v_e3 : Int) (v_e4 : ByteArray) (v_e5 : ByteArray) (v_e6 : ByteArray) (v_e7 : List (List Dat)) (γ : Type) (K : Bool → Option γ) : Option γ := x_value_Check v_e2 v_e3 v_e4 γ fun (z10 : Int) => bif decide (z10 = 0) then bif !decide (v_e2 = 2) then bif decide (v_e1 = 0) then bif decide (v_e5 = bs []) then bif decide (v_e6 = bs []) then K (decide (Int.ofNat (List.length v_e7) = 0)) else K false else K false else K false else bif decide (0 ≤ v_e3) then bif decide (v_e1 = 0) then bif decide (v_e5 = bs []) then bif decide (v_e6 = bs []) then K (decide (Int.ofNat (List.length v_e7) = 0)) else K false else K false else K false else K false else K false
theorem e_expr_literal (p : Par) (x_value_Check : Ty_value_Check) (v_e0 : Int) (v_e1 : Int) (v_e2 : Int) (v_e3 : Int) (v_e4 : ByteArray) (v_e5 : ByteArray) (v_e6 : ByteArray) (v_e7 : List (List Dat)) (γ : Type) (K : List Ent × Sig → Option γ) : evFK (cfg p) (T_expr_literal x_value_Check) (L_expr_literal x_value_Check) 77 [AVal.agg [(Dat.int IntKind.i64 v_e0, Own.none), (Dat.int IntKind.i64 v_e1, Own.none), (Dat.int IntKind.i64 v_e2, Own.none), (Dat.int IntKind.i64 v_e3, Own.none), (Dat.str v_e4, Own.none), (Dat.str v_e5, Own.none), (Dat.str v_e6, Own.none), (Dat.sl v_e7, Own.none)]] [] γ K = Sp.B_expr_literal x_value_Check v_e0 v_e1 v_e2 v_e3 v_e4 v_e5 v_e6 v_e7 γ (fun r0 => K ([(AVal.dat (Dat.bool r0), Own.none)], [])) := by kernel_rfl
def Sp.expr_literal : Ty_expr_literal := Sp.B_expr_literal Sp.value_Check
theorem E_expr_literal (p : Par) {F : Ent3} (hF : EntOk (cfg p) 77 F) : EntOk (cfg p) 77 (P_expr_literal Sp.expr_literal F) := by
  intro a s γ K q h
  unfold P_expr_literal at h
  split at h
  · exact body_ok (tab_call (tab_nil _) (E_value_Check p (ent_none _ _))) rfl ((e_expr_literal p _ _ _ _ _ _ _ _ _ _ _).trans h)
  · exact hF _ _ _ _ _ h
abbrev Ty_lex_letter : Type 1 := Int → (γ : Type) → (Bool → Option γ) → Option γ
def P_lex_letter (X : Ty_lex_letter) (F : Ent3) : Ent3 := fun a s γ K => match a, s with
  | [AVal.dat (Dat.int IntKind.u8 v_c)], [] => X v_c γ (fun r0 => K ([(AVal.dat (Dat.bool r0), Own.none)], []))
  | a, s => F a s γ K
def T_lex_letter  : CallK := noneK
def L_lex_letter  : LoopK := noneL
def Sp.B_lex_letter  (v_c : Int) (γ : Type) (K : Bool → Option γ) : Option γ := bif decide (97 ≤ IntKind.wrap IntKind.u8 (Int.ofNat (BitVec.toFin (BitVec.ofInt (IntKind.bits IntKind.u8) v_c ||| BitVec.ofInt (IntKind.bits IntKind.u8) 32)).1)) then bif decide (IntKind.wrap IntKind.u8 (Int.ofNat (BitVec.toFin (BitVec.ofInt (IntKind.bits IntKind.u8) v_c ||| BitVec.ofInt (IntKind.bits IntKind.u8) 32)).1) ≤ 122) then K true else K (decide (v_c = 95)) else K (decide (v_c = 95))
theorem e_lex_letter (p : Par)  (v_c : Int) (γ : Type) (K : List Ent × Sig → Option γ) : evFK (cfg p) (T_lex_letter ) (L_lex_letter ) 85 [AVal.dat (Dat.int IntKind.u8 v_c)] [] γ K = Sp.B_lex_letter  v_c γ (fun r0 => K ([(AVal.dat (Dat.bool r0), Own.none)], [])) := by kernel_rfl
def Sp.lex_letter : Ty_lex_letter := Sp.B_lex_letter 
theorem E_lex_letter (p : Par) {F : Ent3} (hF : EntOk (cfg p) 85 F) : EntOk (cfg p) 85 (P_lex_letter Sp.lex_letter F) := by
  intro a s γ K q h
  unfold P_lex_letter at h
  split at h
  · exact body_ok (tab_nil _) rfl ((e_lex_letter p  _ _ _).trans h)
  · exact hF _ _ _ _ _ h
abbrev Ty_lex_scanner_left : Type 1 := ByteArray → Int → (γ : Type) → (Bool → ByteArray → Int → Option γ) → Option γ
def P_lex_scanner_left (X : Ty_lex_scanner_left) (F : Ent3) : Ent3 := fun a s γ K => match a, s with
  | [AVal.ref 0 0], [Box.cells [AVal.dat (Dat.str b0), AVal.dat (Dat.int IntKind.i64 b1)]] => X b0 b1 γ (fun r0 r1 r2 => K ([(AVal.dat (Dat.bool r0), Own.none)], [Box.cells [AVal.dat (Dat.str r1), AVal.dat (Dat.int IntKind.i64 r2)]]))
  | a, s => F a s γ K
def T_lex_scanner_left  : CallK := noneK
def L_lex_scanner_left  : LoopK := noneL
def Sp.B_lex_scanner_left  (b0 : ByteArray) (b1 : Int) (γ : Type) (K : Bool → ByteArray → Int → Option γ) : Option γ := K (decide (b1 < Int.ofNat (ByteArray.size b0))) b0 b1
theorem e_lex_scanner_left (p : Par)  (b0 : ByteArray) (b1 : Int) (γ : Type) (K : List Ent × Sig → Option γ) : evFK (cfg p) (T_lex_scanner_left ) (L_lex_scanner_left ) 88 [AVal.ref 0 0] [Box.cells [AVal.dat (Dat.str b0), AVal.dat (Dat.int IntKind.i64 b1)]] γ K = Sp.B_lex_scanner_left  b0 b1 γ (fun r0 r1 r2 => K ([(AVal.dat (Dat.bool r0), Own.none)], [Box.cells [AVal.dat (Dat.str r1), AVal.dat (Dat.int IntKind.i64 r2)]])) := by kernel_rfl
def Sp.lex_scanner_left : Ty_lex_scanner_left := Sp.B_lex_scanner_left 
theorem E_lex_scanner_left (p : Par) {F : Ent3} (hF : EntOk (cfg p) 88 F) : EntOk (cfg p) 88 (P_lex_scanner_left Sp.lex_scanner_left F) := by
  intro a s γ K q h
  unfold P_lex_scanner_left at h
  split at h
  · exact body_ok (tab_nil _) rfl ((e_lex_scanner_left p  _ _ _ _).trans h)
  · exact hF _ _ _ _ _ h
abbrev Ty_lex_digit : Type 1 := Int → (γ : Type) → (Bool → Option γ) → Option γ
def P_lex_digit (X : Ty_lex_digit) (F : Ent3) : Ent3 := fun a s γ K => match a, s with
  | [AVal.dat (Dat.int IntKind.u8 v_c)], [] => X v_c γ (fun r0 => K ([(AVal.dat (Dat.bool r0), Own.none)], []))
  | a, s => F a s γ K
def T_lex_digit  : CallK := noneK
def L_lex_digit  : LoopK := noneL
def Sp.B_lex_digit  (v_c : Int) (γ : Type) (K : Bool → Option γ) : Option γ := bif decide (48 ≤ v_c) then K (decide (v_c ≤ 57)) else K false
theorem e_lex_digit (p : Par)  (v_c : Int) (γ : Type) (K : List Ent × Sig → Option γ) : evFK (cfg p) (T_lex_digit ) (L_lex_digit ) 89 [AVal.dat (Dat.int IntKind.u8 v_c)] [] γ K = Sp.B_lex_digit  v_c γ (fun r0 => K ([(AVal.dat (Dat.bool r0), Own.none)], [])) := by kernel_rfl
def Sp.lex_digit : Ty_lex_digit := Sp.B_lex_digit 
theorem E_lex_digit (p : Par) {F : Ent3} (hF : EntOk (cfg p) 89 F) : EntOk (cfg p) 89 (P_lex_digit Sp.lex_digit F) := by
  intro a s γ K q h
  unfold P_lex_digit at h
  split at h
  · exact body_ok (tab_nil _) rfl ((e_lex_digit p  _ _ _).trans h)
  · exact hF _ _ _ _ _ h
abbrev Ty_lex_scanner_run_L0 : Type 1 := Int → ByteArray → Int → (γ : Type) → (Ex → ByteArray → Int → Option γ) → Option γ
def P_lex_scanner_run_L0 (X : Ty_lex_scanner_run_L0) (F : Loop3) : Loop3 := fun a s γ K => match a, s with
  | [AVal.ref 0 0, AVal.dat (Dat.int IntKind.i64 v_from)], ([], [Box.cells [AVal.dat (Dat.str b0), AVal.dat (Dat.int IntKind.i64 b1)]]) => X v_from b0 b1 γ (fun e x0 x1 => K (e, ([], [Box.cells [AVal.dat (Dat.str x0), AVal.dat (Dat.int IntKind.i64 x1)]])))
  | a, s => F a s γ K
def T_lex_scanner_run_L0 (x_lex_scanner_left : Ty_lex_scanner_left) (x_lex_letter : Ty_lex_letter) (x_lex_digit : Ty_lex_digit) : CallK := (addK (addK (addK noneK 88 (P_lex_scanner_left x_lex_scanner_left none3)) 85 (P_lex_letter x_lex_letter none3)) 89 (P_lex_digit x_lex_digit none3))
def L_lex_scanner_run_L0 (x_lex_scanner_left : Ty_lex_scanner_left) (x_lex_letter : Ty_lex_letter) (x_lex_digit : Ty_lex_digit) : LoopK := noneL
def Sp.B_lex_scanner_run_L0 (x_lex_scanner_run_L0 : Ty_lex_scanner_run_L0) (x_lex_scanner_left : Ty_lex_scanner_left) (x_lex_letter : Ty_lex_letter) (x_lex_digit : Ty_lex_digit) (v_from : Int) (b0 : ByteArray) (b1 : Int) (γ : Type) (K : Ex → ByteArray → Int → Option γ) : Option γ := x_lex_scanner_left b0 b1 γ fun (z5 : Bool) (z6 : ByteArray) (z7 : Int) => bif z5 then byteAt z6 z7 fun (z8 : UInt8) => x_lex_letter (Int.ofNat (BitVec.toFin (UInt8.toBitVec z8)).1) γ fun (z9 : Bool) => bif z9 then x_lex_scanner_run_L0 v_from z6 (IntKind.wrap IntKind.i64 (z7 + 1)) γ K else byteAt z6 z7 fun (z10 : UInt8) => x_lex_digit (Int.ofNat (BitVec.toFin (UInt8.toBitVec z10)).1) γ fun (z11 : Bool) => bif z11 then x_lex_scanner_run_L0 v_from z6 (IntKind.wrap IntKind.i64 (z7 + 1)) γ K else K (Ex.exit 0) z6 z7 else K (Ex.exit 0) z6 z7
theorem e_lex_scanner_run_L0 (p : Par) (x_lex_scanner_run_L0 : Ty_lex_scanner_run_L0) (x_lex_scanner_left : Ty_lex_scanner_left) (x_lex_letter : Ty_lex_letter) (x_lex_digit : Ty_lex_digit) (v_from : Int) (b0 : ByteArray) (b1 : Int) (γ : Type) (K : Ex × Vars → Option γ) : roundK (cfg p) (T_lex_scanner_run_L0 x_lex_scanner_left x_lex_letter x_lex_digit) (L_lex_scanner_run_L0 x_lex_scanner_left x_lex_letter x_lex_digit) 86 0 [AVal.ref 0 0, AVal.dat (Dat.int IntKind.i64 v_from)] ([], [Box.cells [AVal.dat (Dat.str b0), AVal.dat (Dat.int IntKind.i64 b1)]]) γ (contL (fun v => P_lex_scanner_run_L0 x_lex_scanner_run_L0 noneL3 [AVal.ref 0 0, AVal.dat (Dat.int IntKind.i64 v_from)] v γ K) K) = Sp.B_lex_scanner_run_L0 x_lex_scanner_run_L0 x_lex_scanner_left x_lex_letter x_lex_digit v_from b0 b1 γ (fun e x0 x1 => K (e, ([], [Box.cells [AVal.dat (Dat.str x0), AVal.dat (Dat.int IntKind.i64 x1)]]))) := by kernel_rfl
def Sp.lex_scanner_run_L0 : Nat → Ty_lex_scanner_run_L0
  | 0 => fun _ _ _ _ _ => none
  | n + 1 => Sp.B_lex_scanner_run_L0 (Sp.lex_scanner_run_L0 n) Sp.lex_scanner_left Sp.lex_letter Sp.lex_digit
theorem E0_lex_scanner_run_L0 (p : Par)   : ∀ n, EntOkL (cfg p) 86 0 (P_lex_scanner_run_L0 (Sp.lex_scanner_run_L0  n) noneL3) := entL_rounds (tab_call (tab_call (tab_call (tab_nil _) (E_lex_scanner_left p (ent_none _ _))) (E_lex_letter p (ent_none _ _))) (E_lex_digit p (ent_none _ _))) (by kernel_rfl) (fun c v γ K => by unfold P_lex_scanner_run_L0; split <;> rfl) fun n c v γ K q h => by
  unfold P_lex_scanner_run_L0 at h
  split at h
  · exact (e_lex_scanner_run_L0 p _ _ _ _ _ _ _ _ _).trans h
  · cases h
theorem E_lex_scanner_run_L0 (p : Par)   (n : Nat) {F : Loop3} (hF : EntOkL (cfg p) 86 0 F) : EntOkL (cfg p) 86 0 (P_lex_scanner_run_L0 (Sp.lex_scanner_run_L0  n) F) := by
  intro c v γ K q h
  unfold P_lex_scanner_run_L0 at h
  split at h
  · exact E0_lex_scanner_run_L0 p   n _ _ _ _ _ h
  · exact hF _ _ _ _ _ h
abbrev Ty_lex_scanner_run : Type 1 := ByteArray → Int → (γ : Type) → (ByteArray → ByteArray → Int → Option γ) → Option γ
def P_lex_scanner_run (X : Ty_lex_scanner_run) (F : Ent3) : Ent3 := fun a s γ K => match a, s with
  | [AVal.ref 0 0], [Box.cells [AVal.dat (Dat.str b0), AVal.dat (Dat.int IntKind.i64 b1)]] => X b0 b1 γ (fun r0 r1 r2 => K ([(AVal.dat (Dat.str r0), Own.none)], [Box.cells [AVal.dat (Dat.str r1), AVal.dat (Dat.int IntKind.i64 r2)]]))
  | a, s => F a s γ K
def T_lex_scanner_run (x_lex_scanner_run_L0 : Ty_lex_scanner_run_L0) : CallK := noneK
def L_lex_scanner_run (x_lex_scanner_run_L0 : Ty_lex_scanner_run_L0) : LoopK := (addL noneL 86 0 (P_lex_scanner_run_L0 x_lex_scanner_run_L0 noneL3))
def Sp.B_lex_scanner_run (x_lex_scanner_run_L0 : Ty_lex_scanner_run_L0) (b0 : ByteArray) (b1 : Int) (γ : Type) (K : ByteArray → ByteArray → Int → Option γ) : Option γ := x_lex_scanner_run_L0 b1 b0 b1 γ fun (z4 : Ex) (z5 : ByteArray) (z6 : Int) => bif Ex.isExit z4 0 then bif decide (0 ≤ b1) && decide (b1 ≤ z6) && decide (z6 ≤ Int.ofNat (ByteArray.size z5)) && true then K (ByteArray.extract z5 (Int.toNat b1) (Int.toNat z6)) z5 z6 else none else bif Ex.isRet z4 then none else none
theorem e_lex_scanner_run (p : Par) (x_lex_scanner_run_L0 : Ty_lex_scanner_run_L0) (b0 : ByteArray) (b1 : Int) (γ : Type) (K : List Ent × Sig → Option γ) : evFK (cfg p) (T_lex_scanner_run x_lex_scanner_run_L0) (L_lex_scanner_run x_lex_scanner_run_L0) 86 [AVal.ref 0 0] [Box.cells [AVal.dat (Dat.str b0), AVal.dat (Dat.int IntKind.i64 b1)]] γ K = Sp.B_lex_scanner_run x_lex_scanner_run_L0 b0 b1 γ (fun r0 r1 r2 => K ([(AVal.dat (Dat.str r0), Own.none)], [Box.cells [AVal.dat (Dat.str r1), AVal.dat (Dat.int IntKind.i64 r2)]])) := by kernel_rfl
def Sp.lex_scanner_run : Ty_lex_scanner_run := Sp.B_lex_scanner_run (Sp.lex_scanner_run_L0 fuel)
theorem E_lex_scanner_run (p : Par) {F : Ent3} (hF : EntOk (cfg p) 86 F) : EntOk (cfg p) 86 (P_lex_scanner_run Sp.lex_scanner_run F) := by
  intro a s γ K q h
  unfold P_lex_scanner_run at h
  split at h
  · exact body_ok (tab_loop (tab_nil _) (E_lex_scanner_run_L0 p fuel (entL_none _ _ _))) rfl ((e_lex_scanner_run p _ _ _ _ _).trans h)
  · exact hF _ _ _ _ _ h
abbrev Ty_lex_Keys : Type 1 := (γ : Type) → (List (List Dat) → Option γ) → Option γ
def P_lex_Keys (X : Ty_lex_Keys) (F : Ent3) : Ent3 := fun a s γ K => match a, s with
  | [], [] => X  γ (fun r0 => K ([(AVal.dat (Dat.sl r0), Own.none)], []))
  | a, s => F a s γ K
def T_lex_Keys (x_strings_Split : Ty_strings_Split) : CallK := (addK noneK 93 (P_strings_Split x_strings_Split none3))
def L_lex_Keys (x_strings_Split : Ty_strings_Split) : LoopK := noneL
def Sp.B_lex_Keys (x_strings_Split : Ty_strings_Split)  (γ : Type) (K : List (List Dat) → Option γ) : Option γ := x_strings_Split (bs [65, 76, 76, 32, 65, 78, 68, 32, 65, 78, 84, 73, 32, 65, 83, 32, 66, 89, 32, 67, 79, 85, 78, 84, 32, 68, 69, 83, 67, 32, 68, 73, 83, 84, 73, 78, 67, 84, 32, 70, 65, 76, 83, 69, 32, 70, 82, 79, 77, 32, 71, 82, 79, 85, 80, 32, 73, 83, 32, 74, 79, 73, 78, 32, 76, 69, 70, 84, 32, 76, 73, 77, 73, 84, 32, 77, 65, 88, 32, 77, 73, 78, 32, 78, 79, 84, 32, 78, 85, 76, 76, 32, 79, 78, 32, 79, 82, 32, 79, 82, 68, 69, 82, 32, 83, 69, 76, 69, 67, 84, 32, 83, 69, 77, 73, 32, 83, 85, 77, 32, 84, 82, 85, 69, 32, 85, 78, 73, 79, 78, 32, 87, 72, 69, 82, 69]) (bs [32]) γ fun (z2 : List (List Dat)) => K z2
theorem e_lex_Keys (p : Par) (x_strings_Split : Ty_strings_Split)  (γ : Type) (K : List Ent × Sig → Option γ) : evFK (cfg p) (T_lex_Keys x_strings_Split) (L_lex_Keys x_strings_Split) 91 [] [] γ K = Sp.B_lex_Keys x_strings_Split  γ (fun r0 => K ([(AVal.dat (Dat.sl r0), Own.none)], [])) := by kernel_rfl
def Sp.lex_Keys : Ty_lex_Keys := Sp.B_lex_Keys Sp.strings_Split
theorem E_lex_Keys (p : Par) {F : Ent3} (hF : EntOk (cfg p) 91 F) : EntOk (cfg p) 91 (P_lex_Keys Sp.lex_Keys F) := by
  intro a s γ K q h
  unfold P_lex_Keys at h
  split at h
  · exact body_ok (tab_call (tab_nil _) (E_strings_Split p (ent_none _ _))) rfl ((e_lex_Keys p _ _ _ ).trans h)
  · exact hF _ _ _ _ _ h
abbrev Ty_slices_Index_string_string_L0 : Type 1 := List (List Dat) → ByteArray → Int → Int → Int → (γ : Type) → (Ex → Int → Int → Option γ) → Option γ
def P_slices_Index_string_string_L0 (X : Ty_slices_Index_string_string_L0) (F : Loop3) : Loop3 := fun a s γ K => match a, s with
  | [AVal.dat (Dat.sl v_s), AVal.dat (Dat.str v_v), AVal.dat (Dat.int IntKind.i64 v_)], ([AVal.dat (Dat.int IntKind.i64 v__1), AVal.dat (Dat.int IntKind.i64 v__2)], []) => X v_s v_v v_ v__1 v__2 γ (fun e x0 x1 => K (e, ([AVal.dat (Dat.int IntKind.i64 x0), AVal.dat (Dat.int IntKind.i64 x1)], [])))
  | a, s => F a s γ K
def T_slices_Index_string_string_L0  : CallK := noneK
def L_slices_Index_string_string_L0  : LoopK := noneL
def Sp.B_slices_Index_string_string_L0 (x_slices_Index_string_string_L0 : Ty_slices_Index_string_string_L0)  (v_s : List (List Dat)) (v_v : ByteArray) (v_ : Int) (v__1 : Int) (v__2 : Int) (γ : Type) (K : Ex → Int → Int → Option γ) : Option γ := bif decide (v__2 < v_) then elemAt v_s v__2 fun (z7 : List Dat) => bif List.length z7 == 1 then cellAt z7 0 fun (z8 : Dat) => asStr z8 fun (z9 : ByteArray) => bif decide (v_v = z9) then K Ex.ret v__2 v__2 else x_slices_Index_string_string_L0 v_s v_v v_ v__1 (IntKind.wrap IntKind.i64 (v__2 + 1)) γ K else none else K (Ex.exit 0) v__1 v__2
theorem e_slices_Index_string_string_L0 (p : Par) (x_slices_Index_string_string_L0 : Ty_slices_Index_string_string_L0)  (v_s : List (List Dat)) (v_v : ByteArray) (v_ : Int) (v__1 : Int) (v__2 : Int) (γ : Type) (K : Ex × Vars → Option γ) : roundK (cfg p) (T_slices_Index_string_string_L0 ) (L_slices_Index_string_string_L0 ) 92 0 [AVal.dat (Dat.sl v_s), AVal.dat (Dat.str v_v), AVal.dat (Dat.int IntKind.i64 v_)] ([AVal.dat (Dat.int IntKind.i64 v__1), AVal.dat (Dat.int IntKind.i64 v__2)], []) γ (contL (fun v => P_slices_Index_string_string_L0 x_slices_Index_string_string_L0 noneL3 [AVal.dat (Dat.sl v_s), AVal.dat (Dat.str v_v), AVal.dat (Dat.int IntKind.i64 v_)] v γ K) K) = Sp.B_slices_Index_string_string_L0 x_slices_Index_string_string_L0  v_s v_v v_ v__1 v__2 γ (fun e x0 x1 => K (e, ([AVal.dat (Dat.int IntKind.i64 x0), AVal.dat (Dat.int IntKind.i64 x1)], []))) := by kernel_rfl
def Sp.slices_Index_string_string_L0 : Nat → Ty_slices_Index_string_string_L0
  | 0 => fun _ _ _ _ _ _ _ => none
  | n + 1 => Sp.B_slices_Index_string_string_L0 (Sp.slices_Index_string_string_L0 n) 
theorem E0_slices_Index_string_string_L0 (p : Par)   : ∀ n, EntOkL (cfg p) 92 0 (P_slices_Index_string_string_L0 (Sp.slices_Index_string_string_L0  n) noneL3) := entL_rounds (tab_nil _) (by kernel_rfl) (fun c v γ K => by unfold P_slices_Index_string_string_L0; split <;> rfl) fun n c v γ K q h => by
  unfold P_slices_Index_string_string_L0 at h
  split at h
  · exact (e_slices_Index_string_string_L0 p _  _ _ _ _ _ _ _).trans h
  · cases h
theorem E_slices_Index_string_string_L0 (p : Par)   (n : Nat) {F : Loop3} (hF : EntOkL (cfg p) 92 0 F) : EntOkL (cfg p) 92 0 (P_slices_Index_string_string_L0 (Sp.slices_Index_string_string_L0  n) F) := by
  intro c v γ K q h
  unfold P_slices_Index_string_string_L0 at h
  split at h
  · exact E0_slices_Index_string_string_L0 p   n _ _ _ _ _ h
  · exact hF _ _ _ _ _ h
abbrev Ty_slices_Index_string_string : Type 1 := List (List Dat) → ByteArray → (γ : Type) → (Int → Option γ) → Option γ
def P_slices_Index_string_string (X : Ty_slices_Index_string_string) (F : Ent3) : Ent3 := fun a s γ K => match a, s with
  | [AVal.dat (Dat.sl v_s), AVal.dat (Dat.str v_v)], [] => X v_s v_v γ (fun r0 => K ([(AVal.dat (Dat.int IntKind.i64 r0), Own.none)], []))
  | a, s => F a s γ K
def T_slices_Index_string_string (x_slices_Index_string_string_L0 : Ty_slices_Index_string_string_L0) : CallK := noneK
def L_slices_Index_string_string (x_slices_Index_string_string_L0 : Ty_slices_Index_string_string_L0) : LoopK := (addL noneL 92 0 (P_slices_Index_string_string_L0 x_slices_Index_string_string_L0 noneL3))
def Sp.B_slices_Index_string_string (x_slices_Index_string_string_L0 : Ty_slices_Index_string_string_L0) (v_s : List (List Dat)) (v_v : ByteArray) (γ : Type) (K : Int → Option γ) : Option γ := x_slices_Index_string_string_L0 v_s v_v (Int.ofNat (List.length v_s)) 0 0 γ fun (z4 : Ex) (z5 z6 : Int) => bif Ex.isExit z4 0 then K (-1) else bif Ex.isRet z4 then K z5 else none
theorem e_slices_Index_string_string (p : Par) (x_slices_Index_string_string_L0 : Ty_slices_Index_string_string_L0) (v_s : List (List Dat)) (v_v : ByteArray) (γ : Type) (K : List Ent × Sig → Option γ) : evFK (cfg p) (T_slices_Index_string_string x_slices_Index_string_string_L0) (L_slices_Index_string_string x_slices_Index_string_string_L0) 92 [AVal.dat (Dat.sl v_s), AVal.dat (Dat.str v_v)] [] γ K = Sp.B_slices_Index_string_string x_slices_Index_string_string_L0 v_s v_v γ (fun r0 => K ([(AVal.dat (Dat.int IntKind.i64 r0), Own.none)], [])) := by kernel_rfl
def Sp.slices_Index_string_string : Ty_slices_Index_string_string := Sp.B_slices_Index_string_string (Sp.slices_Index_string_string_L0 fuel)
theorem E_slices_Index_string_string (p : Par) {F : Ent3} (hF : EntOk (cfg p) 92 F) : EntOk (cfg p) 92 (P_slices_Index_string_string Sp.slices_Index_string_string F) := by
  intro a s γ K q h
  unfold P_slices_Index_string_string at h
  split at h
  · exact body_ok (tab_loop (tab_nil _) (E_slices_Index_string_string_L0 p fuel (entL_none _ _ _))) rfl ((e_slices_Index_string_string p _ _ _ _ _).trans h)
  · exact hF _ _ _ _ _ h
abbrev Ty_slices_Contains_string_string : Type 1 := List (List Dat) → ByteArray → (γ : Type) → (Bool → Option γ) → Option γ
def P_slices_Contains_string_string (X : Ty_slices_Contains_string_string) (F : Ent3) : Ent3 := fun a s γ K => match a, s with
  | [AVal.dat (Dat.sl v_s), AVal.dat (Dat.str v_v)], [] => X v_s v_v γ (fun r0 => K ([(AVal.dat (Dat.bool r0), Own.none)], []))
  | a, s => F a s γ K
def T_slices_Contains_string_string (x_slices_Index_string_string : Ty_slices_Index_string_string) : CallK := (addK noneK 92 (P_slices_Index_string_string x_slices_Index_string_string none3))
def L_slices_Contains_string_string (x_slices_Index_string_string : Ty_slices_Index_string_string) : LoopK := noneL
def Sp.B_slices_Contains_string_string (x_slices_Index_string_string : Ty_slices_Index_string_string) (v_s : List (List Dat)) (v_v : ByteArray) (γ : Type) (K : Bool → Option γ) : Option γ := x_slices_Index_string_string v_s v_v γ fun (z4 : Int) => K (decide (0 ≤ z4))
theorem e_slices_Contains_string_string (p : Par) (x_slices_Index_string_string : Ty_slices_Index_string_string) (v_s : List (List Dat)) (v_v : ByteArray) (γ : Type) (K : List Ent × Sig → Option γ) : evFK (cfg p) (T_slices_Contains_string_string x_slices_Index_string_string) (L_slices_Contains_string_string x_slices_Index_string_string) 90 [AVal.dat (Dat.sl v_s), AVal.dat (Dat.str v_v)] [] γ K = Sp.B_slices_Contains_string_string x_slices_Index_string_string v_s v_v γ (fun r0 => K ([(AVal.dat (Dat.bool r0), Own.none)], [])) := by kernel_rfl
def Sp.slices_Contains_string_string : Ty_slices_Contains_string_string := Sp.B_slices_Contains_string_string Sp.slices_Index_string_string
theorem E_slices_Contains_string_string (p : Par) {F : Ent3} (hF : EntOk (cfg p) 90 F) : EntOk (cfg p) 90 (P_slices_Contains_string_string Sp.slices_Contains_string_string F) := by
  intro a s γ K q h
  unfold P_slices_Contains_string_string at h
  split at h
  · exact body_ok (tab_call (tab_nil _) (E_slices_Index_string_string p (ent_none _ _))) rfl ((e_slices_Contains_string_string p _ _ _ _ _).trans h)
  · exact hF _ _ _ _ _ h
abbrev Ty_lex_Key : Type 1 := ByteArray → (γ : Type) → (Bool → Option γ) → Option γ
def P_lex_Key (X : Ty_lex_Key) (F : Ent3) : Ent3 := fun a s γ K => match a, s with
  | [AVal.dat (Dat.str v_word)], [] => X v_word γ (fun r0 => K ([(AVal.dat (Dat.bool r0), Own.none)], []))
  | a, s => F a s γ K
def T_lex_Key (x_lex_Keys : Ty_lex_Keys) (x_slices_Contains_string_string : Ty_slices_Contains_string_string) : CallK := (addK (addK noneK 91 (P_lex_Keys x_lex_Keys none3)) 90 (P_slices_Contains_string_string x_slices_Contains_string_string none3))
def L_lex_Key (x_lex_Keys : Ty_lex_Keys) (x_slices_Contains_string_string : Ty_slices_Contains_string_string) : LoopK := noneL
def Sp.B_lex_Key (x_lex_Keys : Ty_lex_Keys) (x_slices_Contains_string_string : Ty_slices_Contains_string_string) (v_word : ByteArray) (γ : Type) (K : Bool → Option γ) : Option γ := x_lex_Keys γ fun (z3 : List (List Dat)) => x_slices_Contains_string_string z3 v_word γ fun (z4 : Bool) => K z4
theorem e_lex_Key (p : Par) (x_lex_Keys : Ty_lex_Keys) (x_slices_Contains_string_string : Ty_slices_Contains_string_string) (v_word : ByteArray) (γ : Type) (K : List Ent × Sig → Option γ) : evFK (cfg p) (T_lex_Key x_lex_Keys x_slices_Contains_string_string) (L_lex_Key x_lex_Keys x_slices_Contains_string_string) 87 [AVal.dat (Dat.str v_word)] [] γ K = Sp.B_lex_Key x_lex_Keys x_slices_Contains_string_string v_word γ (fun r0 => K ([(AVal.dat (Dat.bool r0), Own.none)], [])) := by kernel_rfl
def Sp.lex_Key : Ty_lex_Key := Sp.B_lex_Key Sp.lex_Keys Sp.slices_Contains_string_string
theorem E_lex_Key (p : Par) {F : Ent3} (hF : EntOk (cfg p) 87 F) : EntOk (cfg p) 87 (P_lex_Key Sp.lex_Key F) := by
  intro a s γ K q h
  unfold P_lex_Key at h
  split at h
  · exact body_ok (tab_call (tab_call (tab_nil _) (E_lex_Keys p (ent_none _ _))) (E_slices_Contains_string_string p (ent_none _ _))) rfl ((e_lex_Key p _ _ _ _ _).trans h)
  · exact hF _ _ _ _ _ h
abbrev Ty_lex_Name : Type 1 := ByteArray → (γ : Type) → (Bool → Option γ) → Option γ
def P_lex_Name (X : Ty_lex_Name) (F : Ent3) : Ent3 := fun a s γ K => match a, s with
  | [AVal.dat (Dat.str v_s)], [] => X v_s γ (fun r0 => K ([(AVal.dat (Dat.bool r0), Own.none)], []))
  | a, s => F a s γ K
def T_lex_Name (x_lex_letter : Ty_lex_letter) (x_lex_scanner_run : Ty_lex_scanner_run) (x_lex_Key : Ty_lex_Key) : CallK := (addK (addK (addK noneK 85 (P_lex_letter x_lex_letter none3)) 86 (P_lex_scanner_run x_lex_scanner_run none3)) 87 (P_lex_Key x_lex_Key none3))
def L_lex_Name (x_lex_letter : Ty_lex_letter) (x_lex_scanner_run : Ty_lex_scanner_run) (x_lex_Key : Ty_lex_Key) : LoopK := noneL
def Sp.B_lex_Name (x_lex_letter : Ty_lex_letter) (x_lex_scanner_run : Ty_lex_scanner_run) (x_lex_Key : Ty_lex_Key) (v_s : ByteArray) (γ : Type) (K : Bool → Option γ) : Option γ := bif decide (v_s = bs []) then K false else byteAt v_s 0 fun (z3 : UInt8) => x_lex_letter (Int.ofNat (BitVec.toFin (UInt8.toBitVec z3)).1) γ fun (z4 : Bool) => bif !z4 then K false else x_lex_scanner_run v_s 0 γ fun (z5 z6 : ByteArray) (z7 : Int) => bif decide (z5 = v_s) then bif decide (Int.ofNat (ByteArray.size v_s) ≤ 24) then x_lex_Key v_s γ fun (z8 : Bool) => K !z8 else K false else K false
theorem e_lex_Name (p : Par) (x_lex_letter : Ty_lex_letter) (x_lex_scanner_run : Ty_lex_scanner_run) (x_lex_Key : Ty_lex_Key) (v_s : ByteArray) (γ : Type) (K : List Ent × Sig → Option γ) : evFK (cfg p) (T_lex_Name x_lex_letter x_lex_scanner_run x_lex_Key) (L_lex_Name x_lex_letter x_lex_scanner_run x_lex_Key) 84 [AVal.dat (Dat.str v_s)] [] γ K = Sp.B_lex_Name x_lex_letter x_lex_scanner_run x_lex_Key v_s γ (fun r0 => K ([(AVal.dat (Dat.bool r0), Own.none)], [])) := by kernel_rfl
def Sp.lex_Name : Ty_lex_Name := Sp.B_lex_Name Sp.lex_letter Sp.lex_scanner_run Sp.lex_Key
theorem E_lex_Name (p : Par) {F : Ent3} (hF : EntOk (cfg p) 84 F) : EntOk (cfg p) 84 (P_lex_Name Sp.lex_Name F) := by
  intro a s γ K q h
  unfold P_lex_Name at h
  split at h
  · exact body_ok (tab_call (tab_call (tab_call (tab_nil _) (E_lex_letter p (ent_none _ _))) (E_lex_scanner_run p (ent_none _ _))) (E_lex_Key p (ent_none _ _))) rfl ((e_lex_Name p _ _ _ _ _ _).trans h)
  · exact hF _ _ _ _ _ h
abbrev Ty_expr_column : Type 1 := Int → Int → Int → Int → ByteArray → ByteArray → ByteArray → List (List Dat) → (γ : Type) → (Bool → Option γ) → Option γ
def P_expr_column (X : Ty_expr_column) (F : Ent3) : Ent3 := fun a s γ K => match a, s with
  | [AVal.agg [(Dat.int IntKind.i64 v_e0, Own.none), (Dat.int IntKind.i64 v_e1, Own.none), (Dat.int IntKind.i64 v_e2, Own.none), (Dat.int IntKind.i64 v_e3, Own.none), (Dat.str v_e4, Own.none), (Dat.str v_e5, Own.none), (Dat.str v_e6, Own.none), (Dat.sl v_e7, Own.none)]], [] => X v_e0 v_e1 v_e2 v_e3 v_e4 v_e5 v_e6 v_e7 γ (fun r0 => K ([(AVal.dat (Dat.bool r0), Own.none)], []))
  | a, s => F a s γ K
def T_expr_column (x_lex_Name : Ty_lex_Name) : CallK := (addK noneK 84 (P_lex_Name x_lex_Name none3))
def L_expr_column (x_lex_Name : Ty_lex_Name) : LoopK := noneL
def Sp.B_expr_column (x_lex_Name : Ty_lex_Name) (v_e0 : Int) (v_e1 : Int) (v_e2 : Int) (v_e3 : Int) (v_e4 : ByteArray) (v_e5 : ByteArray) (v_e6 : ByteArray) (v_e7 : List (List Dat)) (γ : Type) (K : Bool → Option γ) : Option γ := x_lex_Name v_e6 γ fun (z10 : Bool) => bif z10 then bif decide (v_e5 = bs []) then bif decide (0 ≤ v_e1) then bif decide (v_e1 < 32) then bif decide (v_e2 = 0) && (decide (v_e3 = 0) && (decide (v_e4 = bs []) && true)) then K (decide (Int.ofNat (List.length v_e7) = 0)) else K false else K false else K false else x_lex_Name v_e5 γ fun (z11 : Bool) => bif z11 then bif decide (0 ≤ v_e1) then bif decide (v_e1 < 32) then bif decide (v_e2 = 0) && (decide (v_e3 = 0) && (decide (v_e4 = bs []) && true)) then K (decide (Int.ofNat (List.length v_e7) = 0)) else K false else K false else K false else K false else K false
theorem e_expr_column (p : Par) (x_lex_Name : Ty_lex_Name) (v_e0 : Int) (v_e1 : Int) (v_e2 : Int) (v_e3 : Int) (v_e4 : ByteArray) (v_e5 : ByteArray) (v_e6 : ByteArray) (v_e7 : List (List Dat)) (γ : Type) (K : List Ent × Sig → Option γ) : evFK (cfg p) (T_expr_column x_lex_Name) (L_expr_column x_lex_Name) 78 [AVal.agg [(Dat.int IntKind.i64 v_e0, Own.none), (Dat.int IntKind.i64 v_e1, Own.none), (Dat.int IntKind.i64 v_e2, Own.none), (Dat.int IntKind.i64 v_e3, Own.none), (Dat.str v_e4, Own.none), (Dat.str v_e5, Own.none), (Dat.str v_e6, Own.none), (Dat.sl v_e7, Own.none)]] [] γ K = Sp.B_expr_column x_lex_Name v_e0 v_e1 v_e2 v_e3 v_e4 v_e5 v_e6 v_e7 γ (fun r0 => K ([(AVal.dat (Dat.bool r0), Own.none)], [])) := by kernel_rfl
def Sp.expr_column : Ty_expr_column := Sp.B_expr_column Sp.lex_Name
theorem E_expr_column (p : Par) {F : Ent3} (hF : EntOk (cfg p) 78 F) : EntOk (cfg p) 78 (P_expr_column Sp.expr_column F) := by
  intro a s γ K q h
  unfold P_expr_column at h
  split at h
  · exact body_ok (tab_call (tab_nil _) (E_lex_Name p (ent_none _ _))) rfl ((e_expr_column p _ _ _ _ _ _ _ _ _ _ _).trans h)
  · exact hF _ _ _ _ _ h
abbrev Ty_expr_bare : Type 1 := Int → Int → Int → Int → ByteArray → ByteArray → ByteArray → List (List Dat) → (γ : Type) → (Bool → Option γ) → Option γ
def P_expr_bare (X : Ty_expr_bare) (F : Ent3) : Ent3 := fun a s γ K => match a, s with
  | [AVal.agg [(Dat.int IntKind.i64 v_e0, Own.none), (Dat.int IntKind.i64 v_e1, Own.none), (Dat.int IntKind.i64 v_e2, Own.none), (Dat.int IntKind.i64 v_e3, Own.none), (Dat.str v_e4, Own.none), (Dat.str v_e5, Own.none), (Dat.str v_e6, Own.none), (Dat.sl v_e7, Own.none)]], [] => X v_e0 v_e1 v_e2 v_e3 v_e4 v_e5 v_e6 v_e7 γ (fun r0 => K ([(AVal.dat (Dat.bool r0), Own.none)], []))
  | a, s => F a s γ K
def T_expr_bare  : CallK := noneK
def L_expr_bare  : LoopK := noneL
def Sp.B_expr_bare  (v_e0 : Int) (v_e1 : Int) (v_e2 : Int) (v_e3 : Int) (v_e4 : ByteArray) (v_e5 : ByteArray) (v_e6 : ByteArray) (v_e7 : List (List Dat)) (γ : Type) (K : Bool → Option γ) : Option γ := bif decide (v_e2 = 0) && (decide (v_e3 = 0) && (decide (v_e4 = bs []) && true)) then bif decide (v_e5 = bs []) then K (decide (v_e6 = bs [])) else K false else K false
theorem e_expr_bare (p : Par)  (v_e0 : Int) (v_e1 : Int) (v_e2 : Int) (v_e3 : Int) (v_e4 : ByteArray) (v_e5 : ByteArray) (v_e6 : ByteArray) (v_e7 : List (List Dat)) (γ : Type) (K : List Ent × Sig → Option γ) : evFK (cfg p) (T_expr_bare ) (L_expr_bare ) 79 [AVal.agg [(Dat.int IntKind.i64 v_e0, Own.none), (Dat.int IntKind.i64 v_e1, Own.none), (Dat.int IntKind.i64 v_e2, Own.none), (Dat.int IntKind.i64 v_e3, Own.none), (Dat.str v_e4, Own.none), (Dat.str v_e5, Own.none), (Dat.str v_e6, Own.none), (Dat.sl v_e7, Own.none)]] [] γ K = Sp.B_expr_bare  v_e0 v_e1 v_e2 v_e3 v_e4 v_e5 v_e6 v_e7 γ (fun r0 => K ([(AVal.dat (Dat.bool r0), Own.none)], [])) := by kernel_rfl
def Sp.expr_bare : Ty_expr_bare := Sp.B_expr_bare 
theorem E_expr_bare (p : Par) {F : Ent3} (hF : EntOk (cfg p) 79 F) : EntOk (cfg p) 79 (P_expr_bare Sp.expr_bare F) := by
  intro a s γ K q h
  unfold P_expr_bare at h
  split at h
  · exact body_ok (tab_nil _) rfl ((e_expr_bare p  _ _ _ _ _ _ _ _ _ _).trans h)
  · exact hF _ _ _ _ _ h
abbrev Ty_expr_Arity : Type 1 := Int → (γ : Type) → (Int → Option γ) → Option γ
def P_expr_Arity (X : Ty_expr_Arity) (F : Ent3) : Ent3 := fun a s γ K => match a, s with
  | [AVal.dat (Dat.int IntKind.i64 v_op)], [] => X v_op γ (fun r0 => K ([(AVal.dat (Dat.int IntKind.i64 r0), Own.none)], []))
  | a, s => F a s γ K
def T_expr_Arity  : CallK := noneK
def L_expr_Arity  : LoopK := noneL
def Sp.B_expr_Arity  (v_op : Int) (γ : Type) (K : Int → Option γ) : Option γ := bif decide (v_op = 3) then K 1 else bif decide (15 ≤ v_op) then bif decide (v_op ≤ 17) then K 1 else bif decide (1 ≤ v_op) then bif decide (v_op < 15) then K 2 else K 0 else K 0 else bif decide (1 ≤ v_op) then bif decide (v_op < 15) then K 2 else K 0 else K 0
theorem e_expr_Arity (p : Par)  (v_op : Int) (γ : Type) (K : List Ent × Sig → Option γ) : evFK (cfg p) (T_expr_Arity ) (L_expr_Arity ) 80 [AVal.dat (Dat.int IntKind.i64 v_op)] [] γ K = Sp.B_expr_Arity  v_op γ (fun r0 => K ([(AVal.dat (Dat.int IntKind.i64 r0), Own.none)], [])) := by kernel_rfl
def Sp.expr_Arity : Ty_expr_Arity := Sp.B_expr_Arity 
theorem E_expr_Arity (p : Par) {F : Ent3} (hF : EntOk (cfg p) 80 F) : EntOk (cfg p) 80 (P_expr_Arity Sp.expr_Arity F) := by
  intro a s γ K q h
  unfold P_expr_Arity at h
  split at h
  · exact body_ok (tab_nil _) rfl ((e_expr_Arity p  _ _ _).trans h)
  · exact hF _ _ _ _ _ h
abbrev Ty_expr_agg : Type 1 := Int → Int → Int → Int → ByteArray → ByteArray → ByteArray → List (List Dat) → (γ : Type) → (Bool → Option γ) → Option γ
def P_expr_agg (X : Ty_expr_agg) (F : Ent3) : Ent3 := fun a s γ K => match a, s with
  | [AVal.agg [(Dat.int IntKind.i64 v_e0, Own.none), (Dat.int IntKind.i64 v_e1, Own.none), (Dat.int IntKind.i64 v_e2, Own.none), (Dat.int IntKind.i64 v_e3, Own.none), (Dat.str v_e4, Own.none), (Dat.str v_e5, Own.none), (Dat.str v_e6, Own.none), (Dat.sl v_e7, Own.none)]], [] => X v_e0 v_e1 v_e2 v_e3 v_e4 v_e5 v_e6 v_e7 γ (fun r0 => K ([(AVal.dat (Dat.bool r0), Own.none)], []))
  | a, s => F a s γ K
def T_expr_agg (x_expr_bare : Ty_expr_bare) : CallK := (addK noneK 79 (P_expr_bare x_expr_bare none3))
def L_expr_agg (x_expr_bare : Ty_expr_bare) : LoopK := noneL
def Sp.B_expr_agg (x_expr_bare : Ty_expr_bare) (v_e0 : Int) (v_e1 : Int) (v_e2 : Int) (v_e3 : Int) (v_e4 : ByteArray) (v_e5 : ByteArray) (v_e6 : ByteArray) (v_e7 : List (List Dat)) (γ : Type) (K : Bool → Option γ) : Option γ := bif decide (v_e1 = 1) then x_expr_bare v_e0 v_e1 v_e2 v_e3 v_e4 v_e5 v_e6 v_e7 γ fun (z10 : Bool) => bif z10 then bif decide (1 ≤ v_e1) then bif decide (v_e1 ≤ 5) then K (decide (Int.ofNat (List.length v_e7) = 0)) else K false else K false else K false else x_expr_bare v_e0 v_e1 v_e2 v_e3 v_e4 v_e5 v_e6 v_e7 γ fun (z11 : Bool) => bif z11 then bif decide (1 ≤ v_e1) then bif decide (v_e1 ≤ 5) then K (decide (Int.ofNat (List.length v_e7) = 1)) else K false else K false else K false
theorem e_expr_agg (p : Par) (x_expr_bare : Ty_expr_bare) (v_e0 : Int) (v_e1 : Int) (v_e2 : Int) (v_e3 : Int) (v_e4 : ByteArray) (v_e5 : ByteArray) (v_e6 : ByteArray) (v_e7 : List (List Dat)) (γ : Type) (K : List Ent × Sig → Option γ) : evFK (cfg p) (T_expr_agg x_expr_bare) (L_expr_agg x_expr_bare) 81 [AVal.agg [(Dat.int IntKind.i64 v_e0, Own.none), (Dat.int IntKind.i64 v_e1, Own.none), (Dat.int IntKind.i64 v_e2, Own.none), (Dat.int IntKind.i64 v_e3, Own.none), (Dat.str v_e4, Own.none), (Dat.str v_e5, Own.none), (Dat.str v_e6, Own.none), (Dat.sl v_e7, Own.none)]] [] γ K = Sp.B_expr_agg x_expr_bare v_e0 v_e1 v_e2 v_e3 v_e4 v_e5 v_e6 v_e7 γ (fun r0 => K ([(AVal.dat (Dat.bool r0), Own.none)], [])) := by kernel_rfl
def Sp.expr_agg : Ty_expr_agg := Sp.B_expr_agg Sp.expr_bare
theorem E_expr_agg (p : Par) {F : Ent3} (hF : EntOk (cfg p) 81 F) : EntOk (cfg p) 81 (P_expr_agg Sp.expr_agg F) := by
  intro a s γ K q h
  unfold P_expr_agg at h
  split at h
  · exact body_ok (tab_call (tab_nil _) (E_expr_bare p (ent_none _ _))) rfl ((e_expr_agg p _ _ _ _ _ _ _ _ _ _ _).trans h)
  · exact hF _ _ _ _ _ h
abbrev Ty_expr_may : Type 1 := Int → Int → Int → Int → ByteArray → ByteArray → ByteArray → List (List Dat) → (γ : Type) → (Bool → Option γ) → Option γ
def P_expr_may (X : Ty_expr_may) (F : Ent3) : Ent3 := fun a s γ K => match a, s with
  | [AVal.agg [(Dat.int IntKind.i64 v_e0, Own.none), (Dat.int IntKind.i64 v_e1, Own.none), (Dat.int IntKind.i64 v_e2, Own.none), (Dat.int IntKind.i64 v_e3, Own.none), (Dat.str v_e4, Own.none), (Dat.str v_e5, Own.none), (Dat.str v_e6, Own.none), (Dat.sl v_e7, Own.none)]], [] => X v_e0 v_e1 v_e2 v_e3 v_e4 v_e5 v_e6 v_e7 γ (fun r0 => K ([(AVal.dat (Dat.bool r0), Own.none)], []))
  | a, s => F a s γ K
def T_expr_may (x_expr_literal : Ty_expr_literal) (x_expr_column : Ty_expr_column) (x_expr_bare : Ty_expr_bare) (x_expr_Arity : Ty_expr_Arity) (x_expr_agg : Ty_expr_agg) : CallK := (addK (addK (addK (addK (addK noneK 77 (P_expr_literal x_expr_literal none3)) 78 (P_expr_column x_expr_column none3)) 79 (P_expr_bare x_expr_bare none3)) 80 (P_expr_Arity x_expr_Arity none3)) 81 (P_expr_agg x_expr_agg none3))
def L_expr_may (x_expr_literal : Ty_expr_literal) (x_expr_column : Ty_expr_column) (x_expr_bare : Ty_expr_bare) (x_expr_Arity : Ty_expr_Arity) (x_expr_agg : Ty_expr_agg) : LoopK := noneL
def Sp.B_expr_may (x_expr_literal : Ty_expr_literal) (x_expr_column : Ty_expr_column) (x_expr_bare : Ty_expr_bare) (x_expr_Arity : Ty_expr_Arity) (x_expr_agg : Ty_expr_agg) (v_e0 : Int) (v_e1 : Int) (v_e2 : Int) (v_e3 : Int) (v_e4 : ByteArray) (v_e5 : ByteArray) (v_e6 : ByteArray) (v_e7 : List (List Dat)) (γ : Type) (K : Bool → Option γ) : Option γ := bif decide (v_e0 = 1) then x_expr_literal v_e0 v_e1 v_e2 v_e3 v_e4 v_e5 v_e6 v_e7 γ fun (z10 : Bool) => K z10 else bif decide (v_e0 = 2) then x_expr_column v_e0 v_e1 v_e2 v_e3 v_e4 v_e5 v_e6 v_e7 γ fun (z11 : Bool) => K z11 else bif decide (v_e0 = 3) then x_expr_bare v_e0 v_e1 v_e2 v_e3 v_e4 v_e5 v_e6 v_e7 γ fun (z12 : Bool) => bif z12 then x_expr_Arity v_e1 γ fun (z13 : Int) => bif decide (0 < z13) then x_expr_Arity v_e1 γ fun (z14 : Int) => K (decide (Int.ofNat (List.length v_e7) = z14)) else K false else K false else bif decide (v_e0 = 4) then x_expr_agg v_e0 v_e1 v_e2 v_e3 v_e4 v_e5 v_e6 v_e7 γ fun (z15 : Bool) => K z15 else K false
theorem e_expr_may (p : Par) (x_expr_literal : Ty_expr_literal) (x_expr_column : Ty_expr_column) (x_expr_bare : Ty_expr_bare) (x_expr_Arity : Ty_expr_Arity) (x_expr_agg : Ty_expr_agg) (v_e0 : Int) (v_e1 : Int) (v_e2 : Int) (v_e3 : Int) (v_e4 : ByteArray) (v_e5 : ByteArray) (v_e6 : ByteArray) (v_e7 : List (List Dat)) (γ : Type) (K : List Ent × Sig → Option γ) : evFK (cfg p) (T_expr_may x_expr_literal x_expr_column x_expr_bare x_expr_Arity x_expr_agg) (L_expr_may x_expr_literal x_expr_column x_expr_bare x_expr_Arity x_expr_agg) 70 [AVal.agg [(Dat.int IntKind.i64 v_e0, Own.none), (Dat.int IntKind.i64 v_e1, Own.none), (Dat.int IntKind.i64 v_e2, Own.none), (Dat.int IntKind.i64 v_e3, Own.none), (Dat.str v_e4, Own.none), (Dat.str v_e5, Own.none), (Dat.str v_e6, Own.none), (Dat.sl v_e7, Own.none)]] [] γ K = Sp.B_expr_may x_expr_literal x_expr_column x_expr_bare x_expr_Arity x_expr_agg v_e0 v_e1 v_e2 v_e3 v_e4 v_e5 v_e6 v_e7 γ (fun r0 => K ([(AVal.dat (Dat.bool r0), Own.none)], [])) := by kernel_rfl
def Sp.expr_may : Ty_expr_may := Sp.B_expr_may Sp.expr_literal Sp.expr_column Sp.expr_bare Sp.expr_Arity Sp.expr_agg
theorem E_expr_may (p : Par) {F : Ent3} (hF : EntOk (cfg p) 70 F) : EntOk (cfg p) 70 (P_expr_may Sp.expr_may F) := by
  intro a s γ K q h
  unfold P_expr_may at h
  split at h
  · exact body_ok (tab_call (tab_call (tab_call (tab_call (tab_call (tab_nil _) (E_expr_literal p (ent_none _ _))) (E_expr_column p (ent_none _ _))) (E_expr_bare p (ent_none _ _))) (E_expr_Arity p (ent_none _ _))) (E_expr_agg p (ent_none _ _))) rfl ((e_expr_may p _ _ _ _ _ _ _ _ _ _ _ _ _ _ _).trans h)
  · exact hF _ _ _ _ _ h
abbrev Ty_expr_scan_look : Type 1 := Int → Int → Int → Int → ByteArray → ByteArray → ByteArray → List (List Dat) → Int → Int → Int → Int → Bool → (γ : Type) → (Int → Int → Bool → Option γ) → Option γ
def P_expr_scan_look (X : Ty_expr_scan_look) (F : Ent3) : Ent3 := fun a s γ K => match a, s with
  | [AVal.ref 0 0, AVal.agg [(Dat.int IntKind.i64 v_e0, Own.none), (Dat.int IntKind.i64 v_e1, Own.none), (Dat.int IntKind.i64 v_e2, Own.none), (Dat.int IntKind.i64 v_e3, Own.none), (Dat.str v_e4, Own.none), (Dat.str v_e5, Own.none), (Dat.str v_e6, Own.none), (Dat.sl v_e7, Own.none)], AVal.dat (Dat.int IntKind.i64 v_deep), AVal.dat (Dat.int IntKind.i64 v_aggs)], [Box.cells [AVal.dat (Dat.int IntKind.i64 b0), AVal.dat (Dat.int IntKind.i64 b1), AVal.dat (Dat.bool b2)]] => X v_e0 v_e1 v_e2 v_e3 v_e4 v_e5 v_e6 v_e7 v_deep v_aggs b0 b1 b2 γ (fun r0 r1 r2 => K ([], [Box.cells [AVal.dat (Dat.int IntKind.i64 r0), AVal.dat (Dat.int IntKind.i64 r1), AVal.dat (Dat.bool r2)]]))
  | a, s => F a s γ K
abbrev Ty_expr_scan_look_L0 : Type 1 := Int → Int → List (List Dat) → Int → Int → Int → Int → Bool → (γ : Type) → (Ex → Int → Int → Int → Bool → Option γ) → Option γ
def P_expr_scan_look_L0 (X : Ty_expr_scan_look_L0) (F : Loop3) : Loop3 := fun a s γ K => match a, s with
  | [AVal.ref 0 0, AVal.dat (Dat.int IntKind.i64 v_deep), AVal.dat (Dat.int IntKind.i64 v_aggs), AVal.dat (Dat.sl v_), AVal.dat (Dat.int IntKind.i64 v__1)], ([AVal.dat (Dat.int IntKind.i64 v__2)], [Box.cells [AVal.dat (Dat.int IntKind.i64 b0), AVal.dat (Dat.int IntKind.i64 b1), AVal.dat (Dat.bool b2)]]) => X v_deep v_aggs v_ v__1 v__2 b0 b1 b2 γ (fun e x0 x1 x2 x3 => K (e, ([AVal.dat (Dat.int IntKind.i64 x0)], [Box.cells [AVal.dat (Dat.int IntKind.i64 x1), AVal.dat (Dat.int IntKind.i64 x2), AVal.dat (Dat.bool x3)]])))
  | a, s => F a s γ K
def T_expr_scan_look_L0 (x_expr_scan_look : Ty_expr_scan_look) : CallK := (addK noneK 58 (P_expr_scan_look x_expr_scan_look none3))
def L_expr_scan_look_L0 (x_expr_scan_look : Ty_expr_scan_look) : LoopK := noneL
def Sp.B_expr_scan_look_L0 (x_expr_scan_look_L0 : Ty_expr_scan_look_L0) (x_expr_scan_look : Ty_expr_scan_look) (v_deep : Int) (v_aggs : Int) (v_ : List (List Dat)) (v__1 : Int) (v__2 : Int) (b0 : Int) (b1 : Int) (b2 : Bool) (γ : Type) (K : Ex → Int → Int → Int → Bool → Option γ) : Option γ := bif decide (v__2 < v__1) then elemAt v_ v__2 fun (z10 : List Dat) => bif List.length z10 == 8 then cellAt z10 0 fun (z11 : Dat) => Aev.asInt IntKind.i64 z11 fun (z12 : Int) => cellAt z10 1 fun (z13 : Dat) => Aev.asInt IntKind.i64 z13 fun (z14 : Int) => cellAt z10 2 fun (z15 : Dat) => Aev.asInt IntKind.i64 z15 fun (z16 : Int) => cellAt z10 3 fun (z17 : Dat) => Aev.asInt IntKind.i64 z17 fun (z18 : Int) => cellAt z10 4 fun (z19 : Dat) => asStr z19 fun (z20 : ByteArray) => cellAt z10 5 fun (z21 : Dat) => asStr z21 fun (z22 : ByteArray) => cellAt z10 6 fun (z23 : Dat) => asStr z23 fun (z24 : ByteArray) => cellAt z10 7 fun (z25 : Dat) => asSl z25 fun (z26 : List (List Dat)) => bif b2 then K Ex.ret v__2 b0 b1 b2 else x_expr_scan_look z12 z14 z16 z18 z20 z22 z24 z26 (IntKind.wrap IntKind.i64 (v_deep + 1)) v_aggs b0 b1 b2 γ fun (z27 z28 : Int) (z29 : Bool) => x_expr_scan_look_L0 v_deep v_aggs v_ v__1 (IntKind.wrap IntKind.i64 (v__2 + 1)) z27 z28 z29 γ K else none else K (Ex.exit 0) v__2 b0 b1 b2
theorem e_expr_scan_look_L0 (p : Par) (x_expr_scan_look_L0 : Ty_expr_scan_look_L0) (x_expr_scan_look : Ty_expr_scan_look) (v_deep : Int) (v_aggs : Int) (v_ : List (List Dat)) (v__1 : Int) (v__2 : Int) (b0 : Int) (b1 : Int) (b2 : Bool) (γ : Type) (K : Ex × Vars → Option γ) : roundK (cfg p) (T_expr_scan_look_L0 x_expr_scan_look) (L_expr_scan_look_L0 x_expr_scan_look) 58 0 [AVal.ref 0 0, AVal.dat (Dat.int IntKind.i64 v_deep), AVal.dat (Dat.int IntKind.i64 v_aggs), AVal.dat (Dat.sl v_), AVal.dat (Dat.int IntKind.i64 v__1)] ([AVal.dat (Dat.int IntKind.i64 v__2)], [Box.cells [AVal.dat (Dat.int IntKind.i64 b0), AVal.dat (Dat.int IntKind.i64 b1), AVal.dat (Dat.bool b2)]]) γ (contL (fun v => P_expr_scan_look_L0 x_expr_scan_look_L0 noneL3 [AVal.ref 0 0, AVal.dat (Dat.int IntKind.i64 v_deep), AVal.dat (Dat.int IntKind.i64 v_aggs), AVal.dat (Dat.sl v_), AVal.dat (Dat.int IntKind.i64 v__1)] v γ K) K) = Sp.B_expr_scan_look_L0 x_expr_scan_look_L0 x_expr_scan_look v_deep v_aggs v_ v__1 v__2 b0 b1 b2 γ (fun e x0 x1 x2 x3 => K (e, ([AVal.dat (Dat.int IntKind.i64 x0)], [Box.cells [AVal.dat (Dat.int IntKind.i64 x1), AVal.dat (Dat.int IntKind.i64 x2), AVal.dat (Dat.bool x3)]]))) := by kernel_rfl
def T_expr_scan_look (x_expr_scan_look_L0 : Ty_expr_scan_look_L0) (x_expr_may : Ty_expr_may) : CallK := (addK noneK 70 (P_expr_may x_expr_may none3))
def L_expr_scan_look (x_expr_scan_look_L0 : Ty_expr_scan_look_L0) (x_expr_may : Ty_expr_may) : LoopK := (addL noneL 58 0 (P_expr_scan_look_L0 x_expr_scan_look_L0 noneL3))
def Sp.B_expr_scan_look (x_expr_scan_look_L0 : Ty_expr_scan_look_L0) (x_expr_may : Ty_expr_may) (v_e0 : Int) (v_e1 : Int) (v_e2 : Int) (v_e3 : Int) (v_e4 : ByteArray) (v_e5 : ByteArray) (v_e6 : ByteArray) (v_e7 : List (List Dat)) (v_deep : Int) (v_aggs : Int) (b0 : Int) (b1 : Int) (b2 : Bool) (γ : Type) (K : Int → Int → Bool → Option γ) : Option γ := bif decide (v_e0 = 4) then bif b2 then x_expr_scan_look_L0 v_deep (IntKind.wrap IntKind.i64 (v_aggs + 1)) v_e7 (Int.ofNat (List.length v_e7)) 0 (IntKind.wrap IntKind.i64 (b0 + 1)) (max b1 v_deep) true γ fun (z15 : Ex) (z16 z17 z18 : Int) (z19 : Bool) => bif Ex.isExit z15 0 then K z17 z18 z19 else bif Ex.isRet z15 then K z17 z18 z19 else none else x_expr_may v_e0 v_e1 v_e2 v_e3 v_e4 v_e5 v_e6 v_e7 γ fun (z20 : Bool) => bif !z20 then x_expr_scan_look_L0 v_deep (IntKind.wrap IntKind.i64 (v_aggs + 1)) v_e7 (Int.ofNat (List.length v_e7)) 0 (IntKind.wrap IntKind.i64 (b0 + 1)) (max b1 v_deep) true γ fun (z21 : Ex) (z22 z23 z24 : Int) (z25 : Bool) => bif Ex.isExit z21 0 then K z23 z24 z25 else bif Ex.isRet z21 then K z23 z24 z25 else none else bif decide (1 < IntKind.wrap IntKind.i64 (v_aggs + 1)) then x_expr_scan_look_L0 v_deep (IntKind.wrap IntKind.i64 (v_aggs + 1)) v_e7 (Int.ofNat (List.length v_e7)) 0 (IntKind.wrap IntKind.i64 (b0 + 1)) (max b1 v_deep) true γ fun (z26 : Ex) (z27 z28 z29 : Int) (z30 : Bool) => bif Ex.isExit z26 0 then K z28 z29 z30 else bif Ex.isRet z26 then K z28 z29 z30 else none else bif decide (512 < IntKind.wrap IntKind.i64 (b0 + 1)) then x_expr_scan_look_L0 v_deep (IntKind.wrap IntKind.i64 (v_aggs + 1)) v_e7 (Int.ofNat (List.length v_e7)) 0 (IntKind.wrap IntKind.i64 (b0 + 1)) (max b1 v_deep) true γ fun (z31 : Ex) (z32 z33 z34 : Int) (z35 : Bool) => bif Ex.isExit z31 0 then K z33 z34 z35 else bif Ex.isRet z31 then K z33 z34 z35 else none else x_expr_scan_look_L0 v_deep (IntKind.wrap IntKind.i64 (v_aggs + 1)) v_e7 (Int.ofNat (List.length v_e7)) 0 (IntKind.wrap IntKind.i64 (b0 + 1)) (max b1 v_deep) (decide (32 < v_deep)) γ fun (z36 : Ex) (z37 z38 z39 : Int) (z40 : Bool) => bif Ex.isExit z36 0 then K z38 z39 z40 else bif Ex.isRet z36 then K z38 z39 z40 else none else bif b2 then x_expr_scan_look_L0 v_deep v_aggs v_e7 (Int.ofNat (List.length v_e7)) 0 (IntKind.wrap IntKind.i64 (b0 + 1)) (max b1 v_deep) true γ fun (z41 : Ex) (z42 z43 z44 : Int) (z45 : Bool) => bif Ex.isExit z41 0 then K z43 z44 z45 else bif Ex.isRet z41 then K z43 z44 z45 else none else x_expr_may v_e0 v_e1 v_e2 v_e3 v_e4 v_e5 v_e6 v_e7 γ fun (z46 : Bool) => bif !z46 then x_expr_scan_look_L0 v_deep v_aggs v_e7 (Int.ofNat (List.length v_e7)) 0 (IntKind.wrap IntKind.i64 (b0 + 1)) (max b1 v_deep) true γ fun (z47 : Ex) (z48 z49 z50 : Int) (z51 : Bool) => bif Ex.isExit z47 0 then K z49 z50 z51 else bif Ex.isRet z47 then K z49 z50 z51 else none else bif decide (1 < v_aggs) then x_expr_scan_look_L0 v_deep v_aggs v_e7 (Int.ofNat (List.length v_e7)) 0 (IntKind.wrap IntKind.i64 (b0 + 1)) (max b1 v_deep) true γ fun (z52 : Ex) (z53 z54 z55 : Int) (z56 : Bool) => bif Ex.isExit z52 0 then K z54 z55 z56 else bif Ex.isRet z52 then K z54 z55 z56 else none else bif decide (512 < IntKind.wrap IntKind.i64 (b0 + 1)) then x_expr_scan_look_L0 v_deep v_aggs v_e7 (Int.ofNat (List.length v_e7)) 0 (IntKind.wrap IntKind.i64 (b0 + 1)) (max b1 v_deep) true γ fun (z57 : Ex) (z58 z59 z60 : Int) (z61 : Bool) => bif Ex.isExit z57 0 then K z59 z60 z61 else bif Ex.isRet z57 then K z59 z60 z61 else none else x_expr_scan_look_L0 v_deep v_aggs v_e7 (Int.ofNat (List.length v_e7)) 0 (IntKind.wrap IntKind.i64 (b0 + 1)) (max b1 v_deep) (decide (32 < v_deep)) γ fun (z62 : Ex) (z63 z64 z65 : Int) (z66 : Bool) => bif Ex.isExit z62 0 then K z64 z65 z66 else bif Ex.isRet z62 then K z64 z65 z66 else none
theorem e_expr_scan_look (p : Par) (x_expr_scan_look_L0 : Ty_expr_scan_look_L0) (x_expr_may : Ty_expr_may) (v_e0 : Int) (v_e1 : Int) (v_e2 : Int) (v_e3 : Int) (v_e4 : ByteArray) (v_e5 : ByteArray) (v_e6 : ByteArray) (v_e7 : List (List Dat)) (v_deep : Int) (v_aggs : Int) (b0 : Int) (b1 : Int) (b2 : Bool) (γ : Type) (K : List Ent × Sig → Option γ) : evFK (cfg p) (T_expr_scan_look x_expr_scan_look_L0 x_expr_may) (L_expr_scan_look x_expr_scan_look_L0 x_expr_may) 58 [AVal.ref 0 0, AVal.agg [(Dat.int IntKind.i64 v_e0, Own.none), (Dat.int IntKind.i64 v_e1, Own.none), (Dat.int IntKind.i64 v_e2, Own.none), (Dat.int IntKind.i64 v_e3, Own.none), (Dat.str v_e4, Own.none), (Dat.str v_e5, Own.none), (Dat.str v_e6, Own.none), (Dat.sl v_e7, Own.none)], AVal.dat (Dat.int IntKind.i64 v_deep), AVal.dat (Dat.int IntKind.i64 v_aggs)] [Box.cells [AVal.dat (Dat.int IntKind.i64 b0), AVal.dat (Dat.int IntKind.i64 b1), AVal.dat (Dat.bool b2)]] γ K = Sp.B_expr_scan_look x_expr_scan_look_L0 x_expr_may v_e0 v_e1 v_e2 v_e3 v_e4 v_e5 v_e6 v_e7 v_deep v_aggs b0 b1 b2 γ (fun r0 r1 r2 => K ([], [Box.cells [AVal.dat (Dat.int IntKind.i64 r0), AVal.dat (Dat.int IntKind.i64 r1), AVal.dat (Dat.bool r2)]])) := by kernel_rfl
def Sp.expr_scan_look_L0 (R_expr_scan_look : Ty_expr_scan_look) : Nat → Ty_expr_scan_look_L0
  | 0 => fun _ _ _ _ _ _ _ _ _ _ => none
  | n + 1 => Sp.B_expr_scan_look_L0 (Sp.expr_scan_look_L0 R_expr_scan_look n) R_expr_scan_look
theorem E0_expr_scan_look_L0 (p : Par) (R_expr_scan_look : Ty_expr_scan_look) (h_expr_scan_look : ∀ {F : Ent3}, EntOk (cfg p) 58 F → EntOk (cfg p) 58 (P_expr_scan_look R_expr_scan_look F)) : ∀ n, EntOkL (cfg p) 58 0 (P_expr_scan_look_L0 (Sp.expr_scan_look_L0 R_expr_scan_look n) noneL3) := entL_rounds (tab_call (tab_nil _) (h_expr_scan_look (ent_none _ _))) (by kernel_rfl) (fun c v γ K => by unfold P_expr_scan_look_L0; split <;> rfl) fun n c v γ K q h => by
  unfold P_expr_scan_look_L0 at h
  split at h
  · exact (e_expr_scan_look_L0 p _ _ _ _ _ _ _ _ _ _ _ _).trans h
  · cases h
theorem E_expr_scan_look_L0 (p : Par) (R_expr_scan_look : Ty_expr_scan_look) (h_expr_scan_look : ∀ {F : Ent3}, EntOk (cfg p) 58 F → EntOk (cfg p) 58 (P_expr_scan_look R_expr_scan_look F)) (n : Nat) {F : Loop3} (hF : EntOkL (cfg p) 58 0 F) : EntOkL (cfg p) 58 0 (P_expr_scan_look_L0 (Sp.expr_scan_look_L0 R_expr_scan_look n) F) := by
  intro c v γ K q h
  unfold P_expr_scan_look_L0 at h
  split at h
  · exact E0_expr_scan_look_L0 p R_expr_scan_look h_expr_scan_look n _ _ _ _ _ h
  · exact hF _ _ _ _ _ h
def Sp.expr_scan_look : Nat → Ty_expr_scan_look
  | 0 => fun _ _ _ _ _ _ _ _ _ _ _ _ _ _ _ => none
  | n + 1 => Sp.B_expr_scan_look (Sp.expr_scan_look_L0 (Sp.expr_scan_look n) fuel) Sp.expr_may
theorem G13_ok (p : Par) (n : Nat) : (∀ {F : Ent3}, EntOk (cfg p) 58 F → EntOk (cfg p) 58 (P_expr_scan_look (Sp.expr_scan_look n) F)) := by
  induction n with
  | zero =>
    refine ?_
    · intro F hF a s γ K q h
      unfold P_expr_scan_look at h
      split at h
      · cases h
      · exact hF _ _ _ _ _ h
  | succ n ih =>
    refine ?_
    · intro F hF a s γ K q h
      unfold P_expr_scan_look at h
      split at h
      · exact body_ok (tab_loop (tab_call (tab_nil _) (E_expr_may p (ent_none _ _))) (E_expr_scan_look_L0 p (Sp.expr_scan_look n) ih fuel (entL_none _ _ _))) rfl ((e_expr_scan_look p _ _ _ _ _ _ _ _ _ _ _ _ _ _ _ _ _).trans h)
      · exact hF _ _ _ _ _ h
theorem E_expr_scan_look (p : Par) (n : Nat) {F : Ent3} (hF : EntOk (cfg p) 58 F) : EntOk (cfg p) 58 (P_expr_scan_look (Sp.expr_scan_look n) F) := (G13_ok p n) hF
abbrev Ty_expr_scanned : Type 1 := Int → Int → Int → Int → ByteArray → ByteArray → ByteArray → List (List Dat) → (γ : Type) → (Int → Int → Bool → Option γ) → Option γ
def P_expr_scanned (X : Ty_expr_scanned) (F : Ent3) : Ent3 := fun a s γ K => match a, s with
  | [AVal.agg [(Dat.int IntKind.i64 v_e0, Own.none), (Dat.int IntKind.i64 v_e1, Own.none), (Dat.int IntKind.i64 v_e2, Own.none), (Dat.int IntKind.i64 v_e3, Own.none), (Dat.str v_e4, Own.none), (Dat.str v_e5, Own.none), (Dat.str v_e6, Own.none), (Dat.sl v_e7, Own.none)]], [] => X v_e0 v_e1 v_e2 v_e3 v_e4 v_e5 v_e6 v_e7 γ (fun r0 r1 r2 => K ([(AVal.agg [(Dat.int IntKind.i64 r0, Own.none), (Dat.int IntKind.i64 r1, Own.none), (Dat.bool r2, Own.none)], Own.none)], []))
  | a, s => F a s γ K
def T_expr_scanned (x_expr_scan_look : Ty_expr_scan_look) : CallK := (addK noneK 58 (P_expr_scan_look x_expr_scan_look none3))
def L_expr_scanned (x_expr_scan_look : Ty_expr_scan_look) : LoopK := noneL
def Sp.B_expr_scanned (x_expr_scan_look : Ty_expr_scan_look) (v_e0 : Int) (v_e1 : Int) (v_e2 : Int) (v_e3 : Int) (v_e4 : ByteArray) (v_e5 : ByteArray) (v_e6 : ByteArray) (v_e7 : List (List Dat)) (γ : Type) (K : Int → Int → Bool → Option γ) : Option γ := x_expr_scan_look v_e0 v_e1 v_e2 v_e3 v_e4 v_e5 v_e6 v_e7 1 0 0 0 false γ fun (z10 z11 : Int) (z12 : Bool) => bif z12 then K 0 0 true else K z10 z11 z12
theorem e_expr_scanned (p : Par) (x_expr_scan_look : Ty_expr_scan_look) (v_e0 : Int) (v_e1 : Int) (v_e2 : Int) (v_e3 : Int) (v_e4 : ByteArray) (v_e5 : ByteArray) (v_e6 : ByteArray) (v_e7 : List (List Dat)) (γ : Type) (K : List Ent × Sig → Option γ) : evFK (cfg p) (T_expr_scanned x_expr_scan_look) (L_expr_scanned x_expr_scan_look) 44 [AVal.agg [(Dat.int IntKind.i64 v_e0, Own.none), (Dat.int IntKind.i64 v_e1, Own.none), (Dat.int IntKind.i64 v_e2, Own.none), (Dat.int IntKind.i64 v_e3, Own.none), (Dat.str v_e4, Own.none), (Dat.str v_e5, Own.none), (Dat.str v_e6, Own.none), (Dat.sl v_e7, Own.none)]] [] γ K = Sp.B_expr_scanned x_expr_scan_look v_e0 v_e1 v_e2 v_e3 v_e4 v_e5 v_e6 v_e7 γ (fun r0 r1 r2 => K ([(AVal.agg [(Dat.int IntKind.i64 r0, Own.none), (Dat.int IntKind.i64 r1, Own.none), (Dat.bool r2, Own.none)], Own.none)], [])) := by kernel_rfl
def Sp.expr_scanned : Ty_expr_scanned := Sp.B_expr_scanned (Sp.expr_scan_look fuel)
theorem E_expr_scanned (p : Par) {F : Ent3} (hF : EntOk (cfg p) 44 F) : EntOk (cfg p) 44 (P_expr_scanned Sp.expr_scanned F) := by
  intro a s γ K q h
  unfold P_expr_scanned at h
  split at h
  · exact body_ok (tab_call (tab_nil _) (E_expr_scan_look p fuel (ent_none _ _))) rfl ((e_expr_scanned p _ _ _ _ _ _ _ _ _ _ _).trans h)
  · exact hF _ _ _ _ _ h
abbrev Ty_expr_Check : Type 1 := Int → Int → Int → Int → ByteArray → ByteArray → ByteArray → List (List Dat) → (γ : Type) → (Int → Option γ) → Option γ
def P_expr_Check (X : Ty_expr_Check) (F : Ent3) : Ent3 := fun a s γ K => match a, s with
  | [AVal.agg [(Dat.int IntKind.i64 v_e0, Own.none), (Dat.int IntKind.i64 v_e1, Own.none), (Dat.int IntKind.i64 v_e2, Own.none), (Dat.int IntKind.i64 v_e3, Own.none), (Dat.str v_e4, Own.none), (Dat.str v_e5, Own.none), (Dat.str v_e6, Own.none), (Dat.sl v_e7, Own.none)]], [] => X v_e0 v_e1 v_e2 v_e3 v_e4 v_e5 v_e6 v_e7 γ (fun r0 => K ([(AVal.dat (Dat.int IntKind.i64 r0), Own.none)], []))
  | a, s => F a s γ K
def T_expr_Check (x_expr_scanned : Ty_expr_scanned) : CallK := (addK noneK 44 (P_expr_scanned x_expr_scanned none3))
def L_expr_Check (x_expr_scanned : Ty_expr_scanned) : LoopK := noneL
def Sp.B_expr_Check (x_expr_scanned : Ty_expr_scanned) (v_e0 : Int) (v_e1 : Int) (v_e2 : Int) (v_e3 : Int) (v_e4 : ByteArray) (v_e5 : ByteArray) (v_e6 : ByteArray) (v_e7 : List (List Dat)) (γ : Type) (K : Int → Option γ) : Option γ := x_expr_scanned v_e0 v_e1 v_e2 v_e3 v_e4 v_e5 v_e6 v_e7 γ fun (z10 z11 : Int) (z12 : Bool) => bif z12 then K 100 else K 0
theorem e_expr_Check (p : Par) (x_expr_scanned : Ty_expr_scanned) (v_e0 : Int) (v_e1 : Int) (v_e2 : Int) (v_e3 : Int) (v_e4 : ByteArray) (v_e5 : ByteArray) (v_e6 : ByteArray) (v_e7 : List (List Dat)) (γ : Type) (K : List Ent × Sig → Option γ) : evFK (cfg p) (T_expr_Check x_expr_scanned) (L_expr_Check x_expr_scanned) 34 [AVal.agg [(Dat.int IntKind.i64 v_e0, Own.none), (Dat.int IntKind.i64 v_e1, Own.none), (Dat.int IntKind.i64 v_e2, Own.none), (Dat.int IntKind.i64 v_e3, Own.none), (Dat.str v_e4, Own.none), (Dat.str v_e5, Own.none), (Dat.str v_e6, Own.none), (Dat.sl v_e7, Own.none)]] [] γ K = Sp.B_expr_Check x_expr_scanned v_e0 v_e1 v_e2 v_e3 v_e4 v_e5 v_e6 v_e7 γ (fun r0 => K ([(AVal.dat (Dat.int IntKind.i64 r0), Own.none)], [])) := by kernel_rfl
def Sp.expr_Check : Ty_expr_Check := Sp.B_expr_Check Sp.expr_scanned
theorem E_expr_Check (p : Par) {F : Ent3} (hF : EntOk (cfg p) 34 F) : EntOk (cfg p) 34 (P_expr_Check Sp.expr_Check F) := by
  intro a s γ K q h
  unfold P_expr_Check at h
  split at h
  · exact body_ok (tab_call (tab_nil _) (E_expr_scanned p (ent_none _ _))) rfl ((e_expr_Check p _ _ _ _ _ _ _ _ _ _ _).trans h)
  · exact hF _ _ _ _ _ h
abbrev Ty_expr_Aggs : Type 1 := Int → Int → Int → Int → ByteArray → ByteArray → ByteArray → List (List Dat) → (γ : Type) → (List (List Dat) → Option γ) → Option γ
def P_expr_Aggs (X : Ty_expr_Aggs) (F : Ent3) : Ent3 := fun a s γ K => match a, s with
  | [AVal.agg [(Dat.int IntKind.i64 v_e0, Own.none), (Dat.int IntKind.i64 v_e1, Own.none), (Dat.int IntKind.i64 v_e2, Own.none), (Dat.int IntKind.i64 v_e3, Own.none), (Dat.str v_e4, Own.none), (Dat.str v_e5, Own.none), (Dat.str v_e6, Own.none), (Dat.sl v_e7, Own.none)]], [] => X v_e0 v_e1 v_e2 v_e3 v_e4 v_e5 v_e6 v_e7 γ (fun r0 => K ([(AVal.dat (Dat.sl r0), Own.none)], []))
  | a, s => F a s γ K
def T_expr_Aggs (x_expr_kinds : Ty_expr_kinds) : CallK := (addK noneK 45 (P_expr_kinds x_expr_kinds none3))
def L_expr_Aggs (x_expr_kinds : Ty_expr_kinds) : LoopK := noneL
def Sp.B_expr_Aggs (x_expr_kinds : Ty_expr_kinds) (v_e0 : Int) (v_e1 : Int) (v_e2 : Int) (v_e3 : Int) (v_e4 : ByteArray) (v_e5 : ByteArray) (v_e6 : ByteArray) (v_e7 : List (List Dat)) (γ : Type) (K : List (List Dat) → Option γ) : Option γ := x_expr_kinds v_e0 v_e1 v_e2 v_e3 v_e4 v_e5 v_e6 v_e7 4 γ fun (z10 : List (List Dat)) => K z10
theorem e_expr_Aggs (p : Par) (x_expr_kinds : Ty_expr_kinds) (v_e0 : Int) (v_e1 : Int) (v_e2 : Int) (v_e3 : Int) (v_e4 : ByteArray) (v_e5 : ByteArray) (v_e6 : ByteArray) (v_e7 : List (List Dat)) (γ : Type) (K : List Ent × Sig → Option γ) : evFK (cfg p) (T_expr_Aggs x_expr_kinds) (L_expr_Aggs x_expr_kinds) 35 [AVal.agg [(Dat.int IntKind.i64 v_e0, Own.none), (Dat.int IntKind.i64 v_e1, Own.none), (Dat.int IntKind.i64 v_e2, Own.none), (Dat.int IntKind.i64 v_e3, Own.none), (Dat.str v_e4, Own.none), (Dat.str v_e5, Own.none), (Dat.str v_e6, Own.none), (Dat.sl v_e7, Own.none)]] [] γ K = Sp.B_expr_Aggs x_expr_kinds v_e0 v_e1 v_e2 v_e3 v_e4 v_e5 v_e6 v_e7 γ (fun r0 => K ([(AVal.dat (Dat.sl r0), Own.none)], [])) := by kernel_rfl
def Sp.expr_Aggs : Ty_expr_Aggs := Sp.B_expr_Aggs Sp.expr_kinds
theorem E_expr_Aggs (p : Par) {F : Ent3} (hF : EntOk (cfg p) 35 F) : EntOk (cfg p) 35 (P_expr_Aggs Sp.expr_Aggs F) := by
  intro a s γ K q h
  unfold P_expr_Aggs at h
  split at h
  · exact body_ok (tab_call (tab_nil _) (E_expr_kinds p (ent_none _ _))) rfl ((e_expr_Aggs p _ _ _ _ _ _ _ _ _ _ _).trans h)
  · exact hF _ _ _ _ _ h
abbrev Ty_calc_may : Type 1 := Int → Int → Int → Int → ByteArray → ByteArray → ByteArray → List (List Dat) → (γ : Type) → (Int → Option γ) → Option γ
def P_calc_may (X : Ty_calc_may) (F : Ent3) : Ent3 := fun a s γ K => match a, s with
  | [AVal.agg [(Dat.int IntKind.i64 v_e0, Own.none), (Dat.int IntKind.i64 v_e1, Own.none), (Dat.int IntKind.i64 v_e2, Own.none), (Dat.int IntKind.i64 v_e3, Own.none), (Dat.str v_e4, Own.none), (Dat.str v_e5, Own.none), (Dat.str v_e6, Own.none), (Dat.sl v_e7, Own.none)]], [] => X v_e0 v_e1 v_e2 v_e3 v_e4 v_e5 v_e6 v_e7 γ (fun r0 => K ([(AVal.dat (Dat.int IntKind.i64 r0), Own.none)], []))
  | a, s => F a s γ K
def T_calc_may (x_expr_Check : Ty_expr_Check) (x_expr_Aggs : Ty_expr_Aggs) : CallK := (addK (addK noneK 34 (P_expr_Check x_expr_Check none3)) 35 (P_expr_Aggs x_expr_Aggs none3))
def L_calc_may (x_expr_Check : Ty_expr_Check) (x_expr_Aggs : Ty_expr_Aggs) : LoopK := noneL
def Sp.B_calc_may (x_expr_Check : Ty_expr_Check) (x_expr_Aggs : Ty_expr_Aggs) (v_e0 : Int) (v_e1 : Int) (v_e2 : Int) (v_e3 : Int) (v_e4 : ByteArray) (v_e5 : ByteArray) (v_e6 : ByteArray) (v_e7 : List (List Dat)) (γ : Type) (K : Int → Option γ) : Option γ := x_expr_Check v_e0 v_e1 v_e2 v_e3 v_e4 v_e5 v_e6 v_e7 γ fun (z10 : Int) => bif !decide (z10 = 0) then K z10 else x_expr_Aggs v_e0 v_e1 v_e2 v_e3 v_e4 v_e5 v_e6 v_e7 γ fun (z11 : List (List Dat)) => bif decide (0 < Int.ofNat (List.length z11)) then K 1 else K 0
theorem e_calc_may (p : Par) (x_expr_Check : Ty_expr_Check) (x_expr_Aggs : Ty_expr_Aggs) (v_e0 : Int) (v_e1 : Int) (v_e2 : Int) (v_e3 : Int) (v_e4 : ByteArray) (v_e5 : ByteArray) (v_e6 : ByteArray) (v_e7 : List (List Dat)) (γ : Type) (K : List Ent × Sig → Option γ) : evFK (cfg p) (T_calc_may x_expr_Check x_expr_Aggs) (L_calc_may x_expr_Check x_expr_Aggs) 20 [AVal.agg [(Dat.int IntKind.i64 v_e0, Own.none), (Dat.int IntKind.i64 v_e1, Own.none), (Dat.int IntKind.i64 v_e2, Own.none), (Dat.int IntKind.i64 v_e3, Own.none), (Dat.str v_e4, Own.none), (Dat.str v_e5, Own.none), (Dat.str v_e6, Own.none), (Dat.sl v_e7, Own.none)]] [] γ K = Sp.B_calc_may x_expr_Check x_expr_Aggs v_e0 v_e1 v_e2 v_e3 v_e4 v_e5 v_e6 v_e7 γ (fun r0 => K ([(AVal.dat (Dat.int IntKind.i64 r0), Own.none)], [])) := by kernel_rfl
def Sp.calc_may : Ty_calc_may := Sp.B_calc_may Sp.expr_Check Sp.expr_Aggs
theorem E_calc_may (p : Par) {F : Ent3} (hF : EntOk (cfg p) 20 F) : EntOk (cfg p) 20 (P_calc_may Sp.calc_may F) := by
  intro a s γ K q h
  unfold P_calc_may at h
  split at h
  · exact body_ok (tab_call (tab_call (tab_nil _) (E_expr_Check p (ent_none _ _))) (E_expr_Aggs p (ent_none _ _))) rfl ((e_calc_may p _ _ _ _ _ _ _ _ _ _ _ _).trans h)
  · exact hF _ _ _ _ _ h
abbrev Ty_value_near : Type 1 := Int → (γ : Type) → (Int → Option γ) → Option γ
def P_value_near (X : Ty_value_near) (F : Ent3) : Ent3 := fun a s γ K => match a, s with
  | [AVal.dat (Dat.int IntKind.i64 v_a)], [] => X v_a γ (fun r0 => K ([(AVal.dat (Dat.int IntKind.i64 r0), Own.none)], []))
  | a, s => F a s γ K
def T_value_near  : CallK := noneK
def L_value_near  : LoopK := noneL
def Sp.B_value_near  (v_a : Int) (γ : Type) (K : Int → Option γ) : Option γ := bif decide (v_a < 0) then K 2 else bif decide (2 < v_a) then K 2 else K v_a
theorem e_value_near (p : Par)  (v_a : Int) (γ : Type) (K : List Ent × Sig → Option γ) : evFK (cfg p) (T_value_near ) (L_value_near ) 61 [AVal.dat (Dat.int IntKind.i64 v_a)] [] γ K = Sp.B_value_near  v_a γ (fun r0 => K ([(AVal.dat (Dat.int IntKind.i64 r0), Own.none)], [])) := by kernel_rfl
def Sp.value_near : Ty_value_near := Sp.B_value_near 
theorem E_value_near (p : Par) {F : Ent3} (hF : EntOk (cfg p) 61 F) : EntOk (cfg p) 61 (P_value_near Sp.value_near F) := by
  intro a s γ K q h
  unfold P_value_near at h
  split at h
  · exact body_ok (tab_nil _) rfl ((e_value_near p  _ _ _).trans h)
  · exact hF _ _ _ _ _ h
abbrev Ty_value_Null : Type 1 := (γ : Type) → (Int → Int → ByteArray → Option γ) → Option γ
def P_value_Null (X : Ty_value_Null) (F : Ent3) : Ent3 := fun a s γ K => match a, s with
  | [], [] => X  γ (fun r0 r1 r2 => K ([(AVal.agg [(Dat.int IntKind.i64 r0, Own.none), (Dat.int IntKind.i64 r1, Own.none), (Dat.str r2, Own.none)], Own.none)], []))
  | a, s => F a s γ K
def T_value_Null  : CallK := noneK
def L_value_Null  : LoopK := noneL
def Sp.B_value_Null   (γ : Type) (K : Int → Int → ByteArray → Option γ) : Option γ := K 0 0 (bs [])
theorem e_value_Null (p : Par)   (γ : Type) (K : List Ent × Sig → Option γ) : evFK (cfg p) (T_value_Null ) (L_value_Null ) 38 [] [] γ K = Sp.B_value_Null   γ (fun r0 r1 r2 => K ([(AVal.agg [(Dat.int IntKind.i64 r0, Own.none), (Dat.int IntKind.i64 r1, Own.none), (Dat.str r2, Own.none)], Own.none)], [])) := by kernel_rfl
def Sp.value_Null : Ty_value_Null := Sp.B_value_Null 
theorem E_value_Null (p : Par) {F : Ent3} (hF : EntOk (cfg p) 38 F) : EntOk (cfg p) 38 (P_value_Null Sp.value_Null F) := by
  intro a s γ K q h
  unfold P_value_Null at h
  split at h
  · exact body_ok (tab_nil _) rfl ((e_value_Null p  _ _ ).trans h)
  · exact hF _ _ _ _ _ h
abbrev Ty_value_Bool : Type 1 := Bool → (γ : Type) → (Int → Int → ByteArray → Option γ) → Option γ
def P_value_Bool (X : Ty_value_Bool) (F : Ent3) : Ent3 := fun a s γ K => match a, s with
  | [AVal.dat (Dat.bool v_is)], [] => X v_is γ (fun r0 r1 r2 => K ([(AVal.agg [(Dat.int IntKind.i64 r0, Own.none), (Dat.int IntKind.i64 r1, Own.none), (Dat.str r2, Own.none)], Own.none)], []))
  | a, s => F a s γ K
def T_value_Bool  : CallK := noneK
def L_value_Bool  : LoopK := noneL
def Sp.B_value_Bool  (v_is : Bool) (γ : Type) (K : Int → Int → ByteArray → Option γ) : Option γ := bif v_is then K 1 1 (bs []) else K 1 0 (bs [])
theorem e_value_Bool (p : Par)  (v_is : Bool) (γ : Type) (K : List Ent × Sig → Option γ) : evFK (cfg p) (T_value_Bool ) (L_value_Bool ) 49 [AVal.dat (Dat.bool v_is)] [] γ K = Sp.B_value_Bool  v_is γ (fun r0 r1 r2 => K ([(AVal.agg [(Dat.int IntKind.i64 r0, Own.none), (Dat.int IntKind.i64 r1, Own.none), (Dat.str r2, Own.none)], Own.none)], [])) := by kernel_rfl
def Sp.value_Bool : Ty_value_Bool := Sp.B_value_Bool 
theorem E_value_Bool (p : Par) {F : Ent3} (hF : EntOk (cfg p) 49 F) : EntOk (cfg p) 49 (P_value_Bool Sp.value_Bool F) := by
  intro a s γ K q h
  unfold P_value_Bool at h
  split at h
  · exact body_ok (tab_nil _) rfl ((e_value_Bool p  _ _ _).trans h)
  · exact hF _ _ _ _ _ h
abbrev Ty_value_Of : Type 1 := Int → (γ : Type) → (Int → Int → ByteArray → Option γ) → Option γ
def P_value_Of (X : Ty_value_Of) (F : Ent3) : Ent3 := fun a s γ K => match a, s with
  | [AVal.dat (Dat.int IntKind.i64 v_t)], [] => X v_t γ (fun r0 r1 r2 => K ([(AVal.agg [(Dat.int IntKind.i64 r0, Own.none), (Dat.int IntKind.i64 r1, Own.none), (Dat.str r2, Own.none)], Own.none)], []))
  | a, s => F a s γ K
def T_value_Of (x_value_near : Ty_value_near) (x_value_Null : Ty_value_Null) (x_value_Bool : Ty_value_Bool) : CallK := (addK (addK (addK noneK 61 (P_value_near x_value_near none3)) 38 (P_value_Null x_value_Null none3)) 49 (P_value_Bool x_value_Bool none3))
def L_value_Of (x_value_near : Ty_value_near) (x_value_Null : Ty_value_Null) (x_value_Bool : Ty_value_Bool) : LoopK := noneL
def Sp.B_value_Of (x_value_near : Ty_value_near) (x_value_Null : Ty_value_Null) (x_value_Bool : Ty_value_Bool) (v_t : Int) (γ : Type) (K : Int → Int → ByteArray → Option γ) : Option γ := x_value_near v_t γ fun (z3 : Int) => bif decide (z3 = 2) then x_value_Null γ fun (z4 z5 : Int) (z6 : ByteArray) => K z4 z5 z6 else x_value_Bool (decide (v_t = 1)) γ fun (z7 z8 : Int) (z9 : ByteArray) => K z7 z8 z9
theorem e_value_Of (p : Par) (x_value_near : Ty_value_near) (x_value_Null : Ty_value_Null) (x_value_Bool : Ty_value_Bool) (v_t : Int) (γ : Type) (K : List Ent × Sig → Option γ) : evFK (cfg p) (T_value_Of x_value_near x_value_Null x_value_Bool) (L_value_Of x_value_near x_value_Null x_value_Bool) 47 [AVal.dat (Dat.int IntKind.i64 v_t)] [] γ K = Sp.B_value_Of x_value_near x_value_Null x_value_Bool v_t γ (fun r0 r1 r2 => K ([(AVal.agg [(Dat.int IntKind.i64 r0, Own.none), (Dat.int IntKind.i64 r1, Own.none), (Dat.str r2, Own.none)], Own.none)], [])) := by kernel_rfl
def Sp.value_Of : Ty_value_Of := Sp.B_value_Of Sp.value_near Sp.value_Null Sp.value_Bool
theorem E_value_Of (p : Par) {F : Ent3} (hF : EntOk (cfg p) 47 F) : EntOk (cfg p) 47 (P_value_Of Sp.value_Of F) := by
  intro a s γ K q h
  unfold P_value_Of at h
  split at h
  · exact body_ok (tab_call (tab_call (tab_call (tab_nil _) (E_value_near p (ent_none _ _))) (E_value_Null p (ent_none _ _))) (E_value_Bool p (ent_none _ _))) rfl ((e_value_Of p _ _ _ _ _ _).trans h)
  · exact hF _ _ _ _ _ h
abbrev Ty_value_Truth : Type 1 := Int → Int → ByteArray → (γ : Type) → (Int → Option γ) → Option γ
def P_value_Truth (X : Ty_value_Truth) (F : Ent3) : Ent3 := fun a s γ K => match a, s with
  | [AVal.agg [(Dat.int IntKind.i64 v_v0, Own.none), (Dat.int IntKind.i64 v_v1, Own.none), (Dat.str v_v2, Own.none)]], [] => X v_v0 v_v1 v_v2 γ (fun r0 => K ([(AVal.dat (Dat.int IntKind.i64 r0), Own.none)], []))
  | a, s => F a s γ K
def T_value_Truth (x_value_Check : Ty_value_Check) : CallK := (addK noneK 39 (P_value_Check x_value_Check none3))
def L_value_Truth (x_value_Check : Ty_value_Check) : LoopK := noneL
def Sp.B_value_Truth (x_value_Check : Ty_value_Check) (v_v0 : Int) (v_v1 : Int) (v_v2 : ByteArray) (γ : Type) (K : Int → Option γ) : Option γ := bif !decide (v_v0 = 1) then K 2 else x_value_Check v_v0 v_v1 v_v2 γ fun (z5 : Int) => bif !decide (z5 = 0) then K 2 else K v_v1
theorem e_value_Truth (p : Par) (x_value_Check : Ty_value_Check) (v_v0 : Int) (v_v1 : Int) (v_v2 : ByteArray) (γ : Type) (K : List Ent × Sig → Option γ) : evFK (cfg p) (T_value_Truth x_value_Check) (L_value_Truth x_value_Check) 23 [AVal.agg [(Dat.int IntKind.i64 v_v0, Own.none), (Dat.int IntKind.i64 v_v1, Own.none), (Dat.str v_v2, Own.none)]] [] γ K = Sp.B_value_Truth x_value_Check v_v0 v_v1 v_v2 γ (fun r0 => K ([(AVal.dat (Dat.int IntKind.i64 r0), Own.none)], [])) := by kernel_rfl
def Sp.value_Truth : Ty_value_Truth := Sp.B_value_Truth Sp.value_Check
theorem E_value_Truth (p : Par) {F : Ent3} (hF : EntOk (cfg p) 23 F) : EntOk (cfg p) 23 (P_value_Truth Sp.value_Truth F) := by
  intro a s γ K q h
  unfold P_value_Truth at h
  split at h
  · exact body_ok (tab_call (tab_nil _) (E_value_Check p (ent_none _ _))) rfl ((e_value_Truth p _ _ _ _ _ _).trans h)
  · exact hF _ _ _ _ _ h
abbrev Ty_value_Not : Type 1 := Int → (γ : Type) → (Int → Option γ) → Option γ
def P_value_Not (X : Ty_value_Not) (F : Ent3) : Ent3 := fun a s γ K => match a, s with
  | [AVal.dat (Dat.int IntKind.i64 v_a)], [] => X v_a γ (fun r0 => K ([(AVal.dat (Dat.int IntKind.i64 r0), Own.none)], []))
  | a, s => F a s γ K
def T_value_Not (x_value_near : Ty_value_near) : CallK := (addK noneK 61 (P_value_near x_value_near none3))
def L_value_Not (x_value_near : Ty_value_near) : LoopK := noneL
def Sp.B_value_Not (x_value_near : Ty_value_near) (v_a : Int) (γ : Type) (K : Int → Option γ) : Option γ := x_value_near v_a γ fun (z3 : Int) => bif decide (0 ≤ z3) && decide (z3 < 3) then cellAt (List.drop (Int.toNat z3 * 1) [Dat.int IntKind.i64 1, Dat.int IntKind.i64 0, Dat.int IntKind.i64 2]) 0 fun (z4 : Dat) => Aev.asInt IntKind.i64 z4 fun (z5 : Int) => K z5 else none
theorem e_value_Not (p : Par) (x_value_near : Ty_value_near) (v_a : Int) (γ : Type) (K : List Ent × Sig → Option γ) : evFK (cfg p) (T_value_Not x_value_near) (L_value_Not x_value_near) 48 [AVal.dat (Dat.int IntKind.i64 v_a)] [] γ K = Sp.B_value_Not x_value_near v_a γ (fun r0 => K ([(AVal.dat (Dat.int IntKind.i64 r0), Own.none)], [])) := by kernel_rfl
def Sp.value_Not : Ty_value_Not := Sp.B_value_Not Sp.value_near
theorem E_value_Not (p : Par) {F : Ent3} (hF : EntOk (cfg p) 48 F) : EntOk (cfg p) 48 (P_value_Not Sp.value_Not F) := by
  intro a s γ K q h
  unfold P_value_Not at h
  split at h
  · exact body_ok (tab_call (tab_nil _) (E_value_near p (ent_none _ _))) rfl ((e_value_Not p _ _ _ _).trans h)
  · exact hF _ _ _ _ _ h
abbrev Ty_value_And : Type 1 := Int → Int → (γ : Type) → (Int → Option γ) → Option γ
def P_value_And (X : Ty_value_And) (F : Ent3) : Ent3 := fun a s γ K => match a, s with
  | [AVal.dat (Dat.int IntKind.i64 v_a), AVal.dat (Dat.int IntKind.i64 v_b)], [] => X v_a v_b γ (fun r0 => K ([(AVal.dat (Dat.int IntKind.i64 r0), Own.none)], []))
  | a, s => F a s γ K
def T_value_And (x_value_near : Ty_value_near) : CallK := (addK noneK 61 (P_value_near x_value_near none3))
def L_value_And (x_value_near : Ty_value_near) : LoopK := noneL
def Sp.B_value_And (x_value_near : Ty_value_near) (v_a : Int) (v_b : Int) (γ : Type) (K : Int → Option γ) : Option γ := x_value_near v_a γ fun (z4 : Int) => x_value_near v_b γ fun (z5 : Int) => bif decide (0 ≤ z4) && decide (z4 < 3) then bif decide (0 ≤ z5) && decide (z5 < 3) then cellAt (List.drop (Int.toNat z5 * 1) (List.drop (Int.toNat z4 * 3) [Dat.int IntKind.i64 0, Dat.int IntKind.i64 0, Dat.int IntKind.i64 0, Dat.int IntKind.i64 0, Dat.int IntKind.i64 1, Dat.int IntKind.i64 2, Dat.int IntKind.i64 0, Dat.int IntKind.i64 2, Dat.int IntKind.i64 2])) 0 fun (z6 : Dat) => Aev.asInt IntKind.i64 z6 fun (z7 : Int) => K z7 else none else none
theorem e_value_And (p : Par) (x_value_near : Ty_value_near) (v_a : Int) (v_b : Int) (γ : Type) (K : List Ent × Sig → Option γ) : evFK (cfg p) (T_value_And x_value_near) (L_value_And x_value_near) 59 [AVal.dat (Dat.int IntKind.i64 v_a), AVal.dat (Dat.int IntKind.i64 v_b)] [] γ K = Sp.B_value_And x_value_near v_a v_b γ (fun r0 => K ([(AVal.dat (Dat.int IntKind.i64 r0), Own.none)], [])) := by kernel_rfl
def Sp.value_And : Ty_value_And := Sp.B_value_And Sp.value_near
theorem E_value_And (p : Par) {F : Ent3} (hF : EntOk (cfg p) 59 F) : EntOk (cfg p) 59 (P_value_And Sp.value_And F) := by
  intro a s γ K q h
  unfold P_value_And at h
  split at h
  · exact body_ok (tab_call (tab_nil _) (E_value_near p (ent_none _ _))) rfl ((e_value_And p _ _ _ _ _).trans h)
  · exact hF _ _ _ _ _ h
abbrev Ty_value_Or : Type 1 := Int → Int → (γ : Type) → (Int → Option γ) → Option γ
def P_value_Or (X : Ty_value_Or) (F : Ent3) : Ent3 := fun a s γ K => match a, s with
  | [AVal.dat (Dat.int IntKind.i64 v_a), AVal.dat (Dat.int IntKind.i64 v_b)], [] => X v_a v_b γ (fun r0 => K ([(AVal.dat (Dat.int IntKind.i64 r0), Own.none)], []))
  | a, s => F a s γ K
def T_value_Or (x_value_Not : Ty_value_Not) (x_value_And : Ty_value_And) : CallK := (addK (addK noneK 48 (P_value_Not x_value_Not none3)) 59 (P_value_And x_value_And none3))
def L_value_Or (x_value_Not : Ty_value_Not) (x_value_And : Ty_value_And) : LoopK := noneL
def Sp.B_value_Or (x_value_Not : Ty_value_Not) (x_value_And : Ty_value_And) (v_a : Int) (v_b : Int) (γ : Type) (K : Int → Option γ) : Option γ := x_value_Not v_a γ fun (z4 : Int) => x_value_Not v_b γ fun (z5 : Int) => x_value_And z4 z5 γ fun (z6 : Int) => x_value_Not z6 γ fun (z7 : Int) => K z7
theorem e_value_Or (p : Par) (x_value_Not : Ty_value_Not) (x_value_And : Ty_value_And) (v_a : Int) (v_b : Int) (γ : Type) (K : List Ent × Sig → Option γ) : evFK (cfg p) (T_value_Or x_value_Not x_value_And) (L_value_Or x_value_Not x_value_And) 60 [AVal.dat (Dat.int IntKind.i64 v_a), AVal.dat (Dat.int IntKind.i64 v_b)] [] γ K = Sp.B_value_Or x_value_Not x_value_And v_a v_b γ (fun r0 => K ([(AVal.dat (Dat.int IntKind.i64 r0), Own.none)], [])) := by kernel_rfl
def Sp.value_Or : Ty_value_Or := Sp.B_value_Or Sp.value_Not Sp.value_And
theorem E_value_Or (p : Par) {F : Ent3} (hF : EntOk (cfg p) 60 F) : EntOk (cfg p) 60 (P_value_Or Sp.value_Or F) := by
  intro a s γ K q h
  unfold P_value_Or at h
  split at h
  · exact body_ok (tab_call (tab_call (tab_nil _) (E_value_Not p (ent_none _ _))) (E_value_And p (ent_none _ _))) rfl ((e_value_Or p _ _ _ _ _ _).trans h)
  · exact hF _ _ _ _ _ h
abbrev Ty_value_known : Type 1 := Int → Int → ByteArray → Int → Int → ByteArray → (γ : Type) → (Bool → Option γ) → Option γ
def P_value_known (X : Ty_value_known) (F : Ent3) : Ent3 := fun a s γ K => match a, s with
  | [AVal.agg [(Dat.int IntKind.i64 v_a0, Own.none), (Dat.int IntKind.i64 v_a1, Own.none), (Dat.str v_a2, Own.none)], AVal.agg [(Dat.int IntKind.i64 v_b0, Own.none), (Dat.int IntKind.i64 v_b1, Own.none), (Dat.str v_b2, Own.none)]], [] => X v_a0 v_a1 v_a2 v_b0 v_b1 v_b2 γ (fun r0 => K ([(AVal.dat (Dat.bool r0), Own.none)], []))
  | a, s => F a s γ K
def T_value_known (x_value_Check : Ty_value_Check) : CallK := (addK noneK 39 (P_value_Check x_value_Check none3))
def L_value_known (x_value_Check : Ty_value_Check) : LoopK := noneL
def Sp.B_value_known (x_value_Check : Ty_value_Check) (v_a0 : Int) (v_a1 : Int) (v_a2 : ByteArray) (v_b0 : Int) (v_b1 : Int) (v_b2 : ByteArray) (γ : Type) (K : Bool → Option γ) : Option γ := bif decide (v_a0 = 0) then K false else bif !decide (v_b0 = 0) then x_value_Check v_a0 v_a1 v_a2 γ fun (z8 : Int) => bif decide (z8 = 0) then x_value_Check v_b0 v_b1 v_b2 γ fun (z9 : Int) => K (decide (z9 = 0)) else K false else K false
theorem e_value_known (p : Par) (x_value_Check : Ty_value_Check) (v_a0 : Int) (v_a1 : Int) (v_a2 : ByteArray) (v_b0 : Int) (v_b1 : Int) (v_b2 : ByteArray) (γ : Type) (K : List Ent × Sig → Option γ) : evFK (cfg p) (T_value_known x_value_Check) (L_value_known x_value_Check) 71 [AVal.agg [(Dat.int IntKind.i64 v_a0, Own.none), (Dat.int IntKind.i64 v_a1, Own.none), (Dat.str v_a2, Own.none)], AVal.agg [(Dat.int IntKind.i64 v_b0, Own.none), (Dat.int IntKind.i64 v_b1, Own.none), (Dat.str v_b2, Own.none)]] [] γ K = Sp.B_value_known x_value_Check v_a0 v_a1 v_a2 v_b0 v_b1 v_b2 γ (fun r0 => K ([(AVal.dat (Dat.bool r0), Own.none)], [])) := by kernel_rfl
def Sp.value_known : Ty_value_known := Sp.B_value_known Sp.value_Check
theorem E_value_known (p : Par) {F : Ent3} (hF : EntOk (cfg p) 71 F) : EntOk (cfg p) 71 (P_value_known Sp.value_known F) := by
  intro a s γ K q h
  unfold P_value_known at h
  split at h
  · exact body_ok (tab_call (tab_nil _) (E_value_Check p (ent_none _ _))) rfl ((e_value_known p _ _ _ _ _ _ _ _ _).trans h)
  · exact hF _ _ _ _ _ h
abbrev Ty_value_truth : Type 1 := Bool → (γ : Type) → (Int → Option γ) → Option γ
def P_value_truth (X : Ty_value_truth) (F : Ent3) : Ent3 := fun a s γ K => match a, s with
  | [AVal.dat (Dat.bool v_is)], [] => X v_is γ (fun r0 => K ([(AVal.dat (Dat.int IntKind.i64 r0), Own.none)], []))
  | a, s => F a s γ K
def T_value_truth  : CallK := noneK
def L_value_truth  : LoopK := noneL
def Sp.B_value_truth  (v_is : Bool) (γ : Type) (K : Int → Option γ) : Option γ := bif v_is then K 1 else K 0
theorem e_value_truth (p : Par)  (v_is : Bool) (γ : Type) (K : List Ent × Sig → Option γ) : evFK (cfg p) (T_value_truth ) (L_value_truth ) 72 [AVal.dat (Dat.bool v_is)] [] γ K = Sp.B_value_truth  v_is γ (fun r0 => K ([(AVal.dat (Dat.int IntKind.i64 r0), Own.none)], [])) := by kernel_rfl
def Sp.value_truth : Ty_value_truth := Sp.B_value_truth 
theorem E_value_truth (p : Par) {F : Ent3} (hF : EntOk (cfg p) 72 F) : EntOk (cfg p) 72 (P_value_truth Sp.value_truth F) := by
  intro a s γ K q h
  unfold P_value_truth at h
  split at h
  · exact body_ok (tab_nil _) rfl ((e_value_truth p  _ _ _).trans h)
  · exact hF _ _ _ _ _ h
abbrev Ty_value_Equal : Type 1 := Int → Int → ByteArray → Int → Int → ByteArray → (γ : Type) → (Int → Option γ) → Option γ
def P_value_Equal (X : Ty_value_Equal) (F : Ent3) : Ent3 := fun a s γ K => match a, s with
  | [AVal.agg [(Dat.int IntKind.i64 v_a0, Own.none), (Dat.int IntKind.i64 v_a1, Own.none), (Dat.str v_a2, Own.none)], AVal.agg [(Dat.int IntKind.i64 v_b0, Own.none), (Dat.int IntKind.i64 v_b1, Own.none), (Dat.str v_b2, Own.none)]], [] => X v_a0 v_a1 v_a2 v_b0 v_b1 v_b2 γ (fun r0 => K ([(AVal.dat (Dat.int IntKind.i64 r0), Own.none)], []))
  | a, s => F a s γ K
def T_value_Equal (x_value_known : Ty_value_known) (x_value_truth : Ty_value_truth) : CallK := (addK (addK noneK 71 (P_value_known x_value_known none3)) 72 (P_value_truth x_value_truth none3))
def L_value_Equal (x_value_known : Ty_value_known) (x_value_truth : Ty_value_truth) : LoopK := noneL
def Sp.B_value_Equal (x_value_known : Ty_value_known) (x_value_truth : Ty_value_truth) (v_a0 : Int) (v_a1 : Int) (v_a2 : ByteArray) (v_b0 : Int) (v_b1 : Int) (v_b2 : ByteArray) (γ : Type) (K : Int → Option γ) : Option γ := x_value_known v_a0 v_a1 v_a2 v_b0 v_b1 v_b2 γ fun (z8 : Bool) => bif !z8 then K 2 else x_value_truth (decide (v_a0 = v_b0) && (decide (v_a1 = v_b1) && (decide (v_a2 = v_b2) && true))) γ fun (z9 : Int) => K z9
theorem e_value_Equal (p : Par) (x_value_known : Ty_value_known) (x_value_truth : Ty_value_truth) (v_a0 : Int) (v_a1 : Int) (v_a2 : ByteArray) (v_b0 : Int) (v_b1 : Int) (v_b2 : ByteArray) (γ : Type) (K : List Ent × Sig → Option γ) : evFK (cfg p) (T_value_Equal x_value_known x_value_truth) (L_value_Equal x_value_known x_value_truth) 62 [AVal.agg [(Dat.int IntKind.i64 v_a0, Own.none), (Dat.int IntKind.i64 v_a1, Own.none), (Dat.str v_a2, Own.none)], AVal.agg [(Dat.int IntKind.i64 v_b0, Own.none), (Dat.int IntKind.i64 v_b1, Own.none), (Dat.str v_b2, Own.none)]] [] γ K = Sp.B_value_Equal x_value_known x_value_truth v_a0 v_a1 v_a2 v_b0 v_b1 v_b2 γ (fun r0 => K ([(AVal.dat (Dat.int IntKind.i64 r0), Own.none)], [])) := by kernel_rfl
def Sp.value_Equal : Ty_value_Equal := Sp.B_value_Equal Sp.value_known Sp.value_truth
theorem E_value_Equal (p : Par) {F : Ent3} (hF : EntOk (cfg p) 62 F) : EntOk (cfg p) 62 (P_value_Equal Sp.value_Equal F) := by
  intro a s γ K q h
  unfold P_value_Equal at h
  split at h
  · exact body_ok (tab_call (tab_call (tab_nil _) (E_value_known p (ent_none _ _))) (E_value_truth p (ent_none _ _))) rfl ((e_value_Equal p _ _ _ _ _ _ _ _ _ _).trans h)
  · exact hF _ _ _ _ _ h
abbrev Ty_cmp_isNaN_int : Type 1 := Int → (γ : Type) → (Bool → Option γ) → Option γ
def P_cmp_isNaN_int (X : Ty_cmp_isNaN_int) (F : Ent3) : Ent3 := fun a s γ K => match a, s with
  | [AVal.dat (Dat.int IntKind.i64 v_x)], [] => X v_x γ (fun r0 => K ([(AVal.dat (Dat.bool r0), Own.none)], []))
  | a, s => F a s γ K
def T_cmp_isNaN_int  : CallK := noneK
def L_cmp_isNaN_int  : LoopK := noneL
def Sp.B_cmp_isNaN_int  (v_x : Int) (γ : Type) (K : Bool → Option γ) : Option γ := K !decide (v_x = v_x)
theorem e_cmp_isNaN_int (p : Par)  (v_x : Int) (γ : Type) (K : List Ent × Sig → Option γ) : evFK (cfg p) (T_cmp_isNaN_int ) (L_cmp_isNaN_int ) 68 [AVal.dat (Dat.int IntKind.i64 v_x)] [] γ K = Sp.B_cmp_isNaN_int  v_x γ (fun r0 => K ([(AVal.dat (Dat.bool r0), Own.none)], [])) := by kernel_rfl
def Sp.cmp_isNaN_int : Ty_cmp_isNaN_int := Sp.B_cmp_isNaN_int 
theorem E_cmp_isNaN_int (p : Par) {F : Ent3} (hF : EntOk (cfg p) 68 F) : EntOk (cfg p) 68 (P_cmp_isNaN_int Sp.cmp_isNaN_int F) := by
  intro a s γ K q h
  unfold P_cmp_isNaN_int at h
  split at h
  · exact body_ok (tab_nil _) rfl ((e_cmp_isNaN_int p  _ _ _).trans h)
  · exact hF _ _ _ _ _ h
abbrev Ty_cmp_Compare_int : Type 1 := Int → Int → (γ : Type) → (Int → Option γ) → Option γ
def P_cmp_Compare_int (X : Ty_cmp_Compare_int) (F : Ent3) : Ent3 := fun a s γ K => match a, s with
  | [AVal.dat (Dat.int IntKind.i64 v_x), AVal.dat (Dat.int IntKind.i64 v_y)], [] => X v_x v_y γ (fun r0 => K ([(AVal.dat (Dat.int IntKind.i64 r0), Own.none)], []))
  | a, s => F a s γ K
def T_cmp_Compare_int (x_cmp_isNaN_int : Ty_cmp_isNaN_int) : CallK := (addK noneK 68 (P_cmp_isNaN_int x_cmp_isNaN_int none3))
def L_cmp_Compare_int (x_cmp_isNaN_int : Ty_cmp_isNaN_int) : LoopK := noneL
def Sp.B_cmp_Compare_int (x_cmp_isNaN_int : Ty_cmp_isNaN_int) (v_x : Int) (v_y : Int) (γ : Type) (K : Int → Option γ) : Option γ := x_cmp_isNaN_int v_x γ fun (z4 : Bool) => x_cmp_isNaN_int v_y γ fun (z5 : Bool) => bif z4 then bif z5 then K 0 else K (-1) else bif z5 then K 1 else bif decide (v_x < v_y) then K (-1) else bif decide (v_y < v_x) then K 1 else K 0
theorem e_cmp_Compare_int (p : Par) (x_cmp_isNaN_int : Ty_cmp_isNaN_int) (v_x : Int) (v_y : Int) (γ : Type) (K : List Ent × Sig → Option γ) : evFK (cfg p) (T_cmp_Compare_int x_cmp_isNaN_int) (L_cmp_Compare_int x_cmp_isNaN_int) 54 [AVal.dat (Dat.int IntKind.i64 v_x), AVal.dat (Dat.int IntKind.i64 v_y)] [] γ K = Sp.B_cmp_Compare_int x_cmp_isNaN_int v_x v_y γ (fun r0 => K ([(AVal.dat (Dat.int IntKind.i64 r0), Own.none)], [])) := by kernel_rfl
def Sp.cmp_Compare_int : Ty_cmp_Compare_int := Sp.B_cmp_Compare_int Sp.cmp_isNaN_int
theorem E_cmp_Compare_int (p : Par) {F : Ent3} (hF : EntOk (cfg p) 54 F) : EntOk (cfg p) 54 (P_cmp_Compare_int Sp.cmp_Compare_int F) := by
  intro a s γ K q h
  unfold P_cmp_Compare_int at h
  split at h
  · exact body_ok (tab_call (tab_nil _) (E_cmp_isNaN_int p (ent_none _ _))) rfl ((e_cmp_Compare_int p _ _ _ _ _).trans h)
  · exact hF _ _ _ _ _ h
abbrev Ty_cmp_isNaN_string : Type 1 := ByteArray → (γ : Type) → (Bool → Option γ) → Option γ
def P_cmp_isNaN_string (X : Ty_cmp_isNaN_string) (F : Ent3) : Ent3 := fun a s γ K => match a, s with
  | [AVal.dat (Dat.str v_x)], [] => X v_x γ (fun r0 => K ([(AVal.dat (Dat.bool r0), Own.none)], []))
  | a, s => F a s γ K
def T_cmp_isNaN_string  : CallK := noneK
def L_cmp_isNaN_string  : LoopK := noneL
def Sp.B_cmp_isNaN_string  (v_x : ByteArray) (γ : Type) (K : Bool → Option γ) : Option γ := K !decide (v_x = v_x)
theorem e_cmp_isNaN_string (p : Par)  (v_x : ByteArray) (γ : Type) (K : List Ent × Sig → Option γ) : evFK (cfg p) (T_cmp_isNaN_string ) (L_cmp_isNaN_string ) 69 [AVal.dat (Dat.str v_x)] [] γ K = Sp.B_cmp_isNaN_string  v_x γ (fun r0 => K ([(AVal.dat (Dat.bool r0), Own.none)], [])) := by kernel_rfl
def Sp.cmp_isNaN_string : Ty_cmp_isNaN_string := Sp.B_cmp_isNaN_string 
theorem E_cmp_isNaN_string (p : Par) {F : Ent3} (hF : EntOk (cfg p) 69 F) : EntOk (cfg p) 69 (P_cmp_isNaN_string Sp.cmp_isNaN_string F) := by
  intro a s γ K q h
  unfold P_cmp_isNaN_string at h
  split at h
  · exact body_ok (tab_nil _) rfl ((e_cmp_isNaN_string p  _ _ _).trans h)
  · exact hF _ _ _ _ _ h
abbrev Ty_cmp_Compare_string : Type 1 := ByteArray → ByteArray → (γ : Type) → (Int → Option γ) → Option γ
def P_cmp_Compare_string (X : Ty_cmp_Compare_string) (F : Ent3) : Ent3 := fun a s γ K => match a, s with
  | [AVal.dat (Dat.str v_x), AVal.dat (Dat.str v_y)], [] => X v_x v_y γ (fun r0 => K ([(AVal.dat (Dat.int IntKind.i64 r0), Own.none)], []))
  | a, s => F a s γ K
def T_cmp_Compare_string (x_cmp_isNaN_string : Ty_cmp_isNaN_string) : CallK := (addK noneK 69 (P_cmp_isNaN_string x_cmp_isNaN_string none3))
def L_cmp_Compare_string (x_cmp_isNaN_string : Ty_cmp_isNaN_string) : LoopK := noneL
def Sp.B_cmp_Compare_string (x_cmp_isNaN_string : Ty_cmp_isNaN_string) (v_x : ByteArray) (v_y : ByteArray) (γ : Type) (K : Int → Option γ) : Option γ := x_cmp_isNaN_string v_x γ fun (z4 : Bool) => x_cmp_isNaN_string v_y γ fun (z5 : Bool) => bif z4 then bif z5 then K 0 else K (-1) else bif z5 then K 1 else bif Op.bytesLess (ByteArray.data v_x).1 (ByteArray.data v_y).1 then K (-1) else bif !(Op.bytesLess (ByteArray.data v_x).1 (ByteArray.data v_y).1 || decide (v_x = v_y)) then K 1 else K 0
theorem e_cmp_Compare_string (p : Par) (x_cmp_isNaN_string : Ty_cmp_isNaN_string) (v_x : ByteArray) (v_y : ByteArray) (γ : Type) (K : List Ent × Sig → Option γ) : evFK (cfg p) (T_cmp_Compare_string x_cmp_isNaN_string) (L_cmp_Compare_string x_cmp_isNaN_string) 55 [AVal.dat (Dat.str v_x), AVal.dat (Dat.str v_y)] [] γ K = Sp.B_cmp_Compare_string x_cmp_isNaN_string v_x v_y γ (fun r0 => K ([(AVal.dat (Dat.int IntKind.i64 r0), Own.none)], [])) := by kernel_rfl
def Sp.cmp_Compare_string : Ty_cmp_Compare_string := Sp.B_cmp_Compare_string Sp.cmp_isNaN_string
theorem E_cmp_Compare_string (p : Par) {F : Ent3} (hF : EntOk (cfg p) 55 F) : EntOk (cfg p) 55 (P_cmp_Compare_string Sp.cmp_Compare_string F) := by
  intro a s γ K q h
  unfold P_cmp_Compare_string at h
  split at h
  · exact body_ok (tab_call (tab_nil _) (E_cmp_isNaN_string p (ent_none _ _))) rfl ((e_cmp_Compare_string p _ _ _ _ _).trans h)
  · exact hF _ _ _ _ _ h
abbrev Ty_cmp_Or_int_L0 : Type 1 := Int → List (List Dat) → Int → Int → Int → (γ : Type) → (Ex → Int → Int → Option γ) → Option γ
def P_cmp_Or_int_L0 (X : Ty_cmp_Or_int_L0) (F : Loop3) : Loop3 := fun a s γ K => match a, s with
  | [AVal.dat (Dat.int IntKind.i64 v_zero), AVal.dat (Dat.sl v_), AVal.dat (Dat.int IntKind.i64 v__1)], ([AVal.dat (Dat.int IntKind.i64 v__2), AVal.dat (Dat.int IntKind.i64 v__3)], []) => X v_zero v_ v__1 v__2 v__3 γ (fun e x0 x1 => K (e, ([AVal.dat (Dat.int IntKind.i64 x0), AVal.dat (Dat.int IntKind.i64 x1)], [])))
  | a, s => F a s γ K
def T_cmp_Or_int_L0  : CallK := noneK
def L_cmp_Or_int_L0  : LoopK := noneL
def Sp.B_cmp_Or_int_L0 (x_cmp_Or_int_L0 : Ty_cmp_Or_int_L0)  (v_zero : Int) (v_ : List (List Dat)) (v__1 : Int) (v__2 : Int) (v__3 : Int) (γ : Type) (K : Ex → Int → Int → Option γ) : Option γ := bif decide (v__3 < v__1) then elemAt v_ v__3 fun (z7 : List Dat) => bif List.length z7 == 1 then cellAt z7 0 fun (z8 : Dat) => Aev.asInt IntKind.i64 z8 fun (z9 : Int) => bif !decide (z9 = v_zero) then K Ex.ret z9 v__3 else x_cmp_Or_int_L0 v_zero v_ v__1 v__2 (IntKind.wrap IntKind.i64 (v__3 + 1)) γ K else none else K (Ex.exit 0) v__2 v__3
theorem e_cmp_Or_int_L0 (p : Par) (x_cmp_Or_int_L0 : Ty_cmp_Or_int_L0)  (v_zero : Int) (v_ : List (List Dat)) (v__1 : Int) (v__2 : Int) (v__3 : Int) (γ : Type) (K : Ex × Vars → Option γ) : roundK (cfg p) (T_cmp_Or_int_L0 ) (L_cmp_Or_int_L0 ) 53 0 [AVal.dat (Dat.int IntKind.i64 v_zero), AVal.dat (Dat.sl v_), AVal.dat (Dat.int IntKind.i64 v__1)] ([AVal.dat (Dat.int IntKind.i64 v__2), AVal.dat (Dat.int IntKind.i64 v__3)], []) γ (contL (fun v => P_cmp_Or_int_L0 x_cmp_Or_int_L0 noneL3 [AVal.dat (Dat.int IntKind.i64 v_zero), AVal.dat (Dat.sl v_), AVal.dat (Dat.int IntKind.i64 v__1)] v γ K) K) = Sp.B_cmp_Or_int_L0 x_cmp_Or_int_L0  v_zero v_ v__1 v__2 v__3 γ (fun e x0 x1 => K (e, ([AVal.dat (Dat.int IntKind.i64 x0), AVal.dat (Dat.int IntKind.i64 x1)], []))) := by kernel_rfl
def Sp.cmp_Or_int_L0 : Nat → Ty_cmp_Or_int_L0
  | 0 => fun _ _ _ _ _ _ _ => none
  | n + 1 => Sp.B_cmp_Or_int_L0 (Sp.cmp_Or_int_L0 n) 
theorem E0_cmp_Or_int_L0 (p : Par)   : ∀ n, EntOkL (cfg p) 53 0 (P_cmp_Or_int_L0 (Sp.cmp_Or_int_L0  n) noneL3) := entL_rounds (tab_nil _) (by kernel_rfl) (fun c v γ K => by unfold P_cmp_Or_int_L0; split <;> rfl) fun n c v γ K q h => by
  unfold P_cmp_Or_int_L0 at h
  split at h
  · exact (e_cmp_Or_int_L0 p _  _ _ _ _ _ _ _).trans h
  · cases h
theorem E_cmp_Or_int_L0 (p : Par)   (n : Nat) {F : Loop3} (hF : EntOkL (cfg p) 53 0 F) : EntOkL (cfg p) 53 0 (P_cmp_Or_int_L0 (Sp.cmp_Or_int_L0  n) F) := by
  intro c v γ K q h
  unfold P_cmp_Or_int_L0 at h
  split at h
  · exact E0_cmp_Or_int_L0 p   n _ _ _ _ _ h
  · exact hF _ _ _ _ _ h
abbrev Ty_cmp_Or_int : Type 1 := List (List Dat) → (γ : Type) → (Int → Option γ) → Option γ
def P_cmp_Or_int (X : Ty_cmp_Or_int) (F : Ent3) : Ent3 := fun a s γ K => match a, s with
  | [AVal.dat (Dat.sl v_vals)], [] => X v_vals γ (fun r0 => K ([(AVal.dat (Dat.int IntKind.i64 r0), Own.none)], []))
  | a, s => F a s γ K
def T_cmp_Or_int (x_cmp_Or_int_L0 : Ty_cmp_Or_int_L0) : CallK := noneK
def L_cmp_Or_int (x_cmp_Or_int_L0 : Ty_cmp_Or_int_L0) : LoopK := (addL noneL 53 0 (P_cmp_Or_int_L0 x_cmp_Or_int_L0 noneL3))
def Sp.B_cmp_Or_int (x_cmp_Or_int_L0 : Ty_cmp_Or_int_L0) (v_vals : List (List Dat)) (γ : Type) (K : Int → Option γ) : Option γ := x_cmp_Or_int_L0 0 v_vals (Int.ofNat (List.length v_vals)) 0 0 γ fun (z3 : Ex) (z4 z5 : Int) => bif Ex.isExit z3 0 then K 0 else bif Ex.isRet z3 then K z4 else none
theorem e_cmp_Or_int (p : Par) (x_cmp_Or_int_L0 : Ty_cmp_Or_int_L0) (v_vals : List (List Dat)) (γ : Type) (K : List Ent × Sig → Option γ) : evFK (cfg p) (T_cmp_Or_int x_cmp_Or_int_L0) (L_cmp_Or_int x_cmp_Or_int_L0) 53 [AVal.dat (Dat.sl v_vals)] [] γ K = Sp.B_cmp_Or_int x_cmp_Or_int_L0 v_vals γ (fun r0 => K ([(AVal.dat (Dat.int IntKind.i64 r0), Own.none)], [])) := by kernel_rfl
def Sp.cmp_Or_int : Ty_cmp_Or_int := Sp.B_cmp_Or_int (Sp.cmp_Or_int_L0 fuel)
theorem E_cmp_Or_int (p : Par) {F : Ent3} (hF : EntOk (cfg p) 53 F) : EntOk (cfg p) 53 (P_cmp_Or_int Sp.cmp_Or_int F) := by
  intro a s γ K q h
  unfold P_cmp_Or_int at h
  split at h
  · exact body_ok (tab_loop (tab_nil _) (E_cmp_Or_int_L0 p fuel (entL_none _ _ _))) rfl ((e_cmp_Or_int p _ _ _ _).trans h)
  · exact hF _ _ _ _ _ h
abbrev Ty_value_Compare : Type 1 := Int → Int → ByteArray → Int → Int → ByteArray → (γ : Type) → (Int → Option γ) → Option γ
def P_value_Compare (X : Ty_value_Compare) (F : Ent3) : Ent3 := fun a s γ K => match a, s with
  | [AVal.agg [(Dat.int IntKind.i64 v_a0, Own.none), (Dat.int IntKind.i64 v_a1, Own.none), (Dat.str v_a2, Own.none)], AVal.agg [(Dat.int IntKind.i64 v_b0, Own.none), (Dat.int IntKind.i64 v_b1, Own.none), (Dat.str v_b2, Own.none)]], [] => X v_a0 v_a1 v_a2 v_b0 v_b1 v_b2 γ (fun r0 => K ([(AVal.dat (Dat.int IntKind.i64 r0), Own.none)], []))
  | a, s => F a s γ K
def T_value_Compare (x_cmp_Compare_int : Ty_cmp_Compare_int) (x_cmp_Compare_string : Ty_cmp_Compare_string) (x_cmp_Or_int : Ty_cmp_Or_int) : CallK := (addK (addK (addK noneK 54 (P_cmp_Compare_int x_cmp_Compare_int none3)) 55 (P_cmp_Compare_string x_cmp_Compare_string none3)) 53 (P_cmp_Or_int x_cmp_Or_int none3))
def L_value_Compare (x_cmp_Compare_int : Ty_cmp_Compare_int) (x_cmp_Compare_string : Ty_cmp_Compare_string) (x_cmp_Or_int : Ty_cmp_Or_int) : LoopK := noneL
def Sp.B_value_Compare (x_cmp_Compare_int : Ty_cmp_Compare_int) (x_cmp_Compare_string : Ty_cmp_Compare_string) (x_cmp_Or_int : Ty_cmp_Or_int) (v_a0 : Int) (v_a1 : Int) (v_a2 : ByteArray) (v_b0 : Int) (v_b1 : Int) (v_b2 : ByteArray) (γ : Type) (K : Int → Option γ) : Option γ := x_cmp_Compare_int v_a0 v_b0 γ fun (z8 : Int) => x_cmp_Compare_int v_a1 v_b1 γ fun (z9 : Int) => x_cmp_Compare_string v_a2 v_b2 γ fun (z10 : Int) => x_cmp_Or_int [[Dat.int IntKind.i64 z8], [Dat.int IntKind.i64 z9], [Dat.int IntKind.i64 z10]] γ fun (z11 : Int) => K z11
theorem e_value_Compare (p : Par) (x_cmp_Compare_int : Ty_cmp_Compare_int) (x_cmp_Compare_string : Ty_cmp_Compare_string) (x_cmp_Or_int : Ty_cmp_Or_int) (v_a0 : Int) (v_a1 : Int) (v_a2 : ByteArray) (v_b0 : Int) (v_b1 : Int) (v_b2 : ByteArray) (γ : Type) (K : List Ent × Sig → Option γ) : evFK (cfg p) (T_value_Compare x_cmp_Compare_int x_cmp_Compare_string x_cmp_Or_int) (L_value_Compare x_cmp_Compare_int x_cmp_Compare_string x_cmp_Or_int) 41 [AVal.agg [(Dat.int IntKind.i64 v_a0, Own.none), (Dat.int IntKind.i64 v_a1, Own.none), (Dat.str v_a2, Own.none)], AVal.agg [(Dat.int IntKind.i64 v_b0, Own.none), (Dat.int IntKind.i64 v_b1, Own.none), (Dat.str v_b2, Own.none)]] [] γ K = Sp.B_value_Compare x_cmp_Compare_int x_cmp_Compare_string x_cmp_Or_int v_a0 v_a1 v_a2 v_b0 v_b1 v_b2 γ (fun r0 => K ([(AVal.dat (Dat.int IntKind.i64 r0), Own.none)], [])) := by kernel_rfl
def Sp.value_Compare : Ty_value_Compare := Sp.B_value_Compare Sp.cmp_Compare_int Sp.cmp_Compare_string Sp.cmp_Or_int
theorem E_value_Compare (p : Par) {F : Ent3} (hF : EntOk (cfg p) 41 F) : EntOk (cfg p) 41 (P_value_Compare Sp.value_Compare F) := by
  intro a s γ K q h
  unfold P_value_Compare at h
  split at h
  · exact body_ok (tab_call (tab_call (tab_call (tab_nil _) (E_cmp_Compare_int p (ent_none _ _))) (E_cmp_Compare_string p (ent_none _ _))) (E_cmp_Or_int p (ent_none _ _))) rfl ((e_value_Compare p _ _ _ _ _ _ _ _ _ _ _).trans h)
  · exact hF _ _ _ _ _ h
abbrev Ty_value_Less : Type 1 := Int → Int → ByteArray → Int → Int → ByteArray → (γ : Type) → (Int → Option γ) → Option γ
def P_value_Less (X : Ty_value_Less) (F : Ent3) : Ent3 := fun a s γ K => match a, s with
  | [AVal.agg [(Dat.int IntKind.i64 v_a0, Own.none), (Dat.int IntKind.i64 v_a1, Own.none), (Dat.str v_a2, Own.none)], AVal.agg [(Dat.int IntKind.i64 v_b0, Own.none), (Dat.int IntKind.i64 v_b1, Own.none), (Dat.str v_b2, Own.none)]], [] => X v_a0 v_a1 v_a2 v_b0 v_b1 v_b2 γ (fun r0 => K ([(AVal.dat (Dat.int IntKind.i64 r0), Own.none)], []))
  | a, s => F a s γ K
def T_value_Less (x_value_known : Ty_value_known) (x_value_Compare : Ty_value_Compare) (x_value_truth : Ty_value_truth) : CallK := (addK (addK (addK noneK 71 (P_value_known x_value_known none3)) 41 (P_value_Compare x_value_Compare none3)) 72 (P_value_truth x_value_truth none3))
def L_value_Less (x_value_known : Ty_value_known) (x_value_Compare : Ty_value_Compare) (x_value_truth : Ty_value_truth) : LoopK := noneL
def Sp.B_value_Less (x_value_known : Ty_value_known) (x_value_Compare : Ty_value_Compare) (x_value_truth : Ty_value_truth) (v_a0 : Int) (v_a1 : Int) (v_a2 : ByteArray) (v_b0 : Int) (v_b1 : Int) (v_b2 : ByteArray) (γ : Type) (K : Int → Option γ) : Option γ := x_value_known v_a0 v_a1 v_a2 v_b0 v_b1 v_b2 γ fun (z8 : Bool) => bif !z8 then K 2 else bif decide (v_a0 = v_b0) then x_value_Compare v_a0 v_a1 v_a2 v_b0 v_b1 v_b2 γ fun (z9 : Int) => x_value_truth (decide (z9 < 0)) γ fun (z10 : Int) => K z10 else x_value_truth false γ fun (z11 : Int) => K z11
theorem e_value_Less (p : Par) (x_value_known : Ty_value_known) (x_value_Compare : Ty_value_Compare) (x_value_truth : Ty_value_truth) (v_a0 : Int) (v_a1 : Int) (v_a2 : ByteArray) (v_b0 : Int) (v_b1 : Int) (v_b2 : ByteArray) (γ : Type) (K : List Ent × Sig → Option γ) : evFK (cfg p) (T_value_Less x_value_known x_value_Compare x_value_truth) (L_value_Less x_value_known x_value_Compare x_value_truth) 63 [AVal.agg [(Dat.int IntKind.i64 v_a0, Own.none), (Dat.int IntKind.i64 v_a1, Own.none), (Dat.str v_a2, Own.none)], AVal.agg [(Dat.int IntKind.i64 v_b0, Own.none), (Dat.int IntKind.i64 v_b1, Own.none), (Dat.str v_b2, Own.none)]] [] γ K = Sp.B_value_Less x_value_known x_value_Compare x_value_truth v_a0 v_a1 v_a2 v_b0 v_b1 v_b2 γ (fun r0 => K ([(AVal.dat (Dat.int IntKind.i64 r0), Own.none)], [])) := by kernel_rfl
def Sp.value_Less : Ty_value_Less := Sp.B_value_Less Sp.value_known Sp.value_Compare Sp.value_truth
theorem E_value_Less (p : Par) {F : Ent3} (hF : EntOk (cfg p) 63 F) : EntOk (cfg p) 63 (P_value_Less Sp.value_Less F) := by
  intro a s γ K q h
  unfold P_value_Less at h
  split at h
  · exact body_ok (tab_call (tab_call (tab_call (tab_nil _) (E_value_known p (ent_none _ _))) (E_value_Compare p (ent_none _ _))) (E_value_truth p (ent_none _ _))) rfl ((e_value_Less p _ _ _ _ _ _ _ _ _ _ _).trans h)
  · exact hF _ _ _ _ _ h
abbrev Ty_calc_compare : Type 1 := Int → Int → Int → ByteArray → Int → Int → ByteArray → (γ : Type) → (Int → Option γ) → Option γ
def P_calc_compare (X : Ty_calc_compare) (F : Ent3) : Ent3 := fun a s γ K => match a, s with
  | [AVal.dat (Dat.int IntKind.i64 v_op), AVal.agg [(Dat.int IntKind.i64 v_a0, Own.none), (Dat.int IntKind.i64 v_a1, Own.none), (Dat.str v_a2, Own.none)], AVal.agg [(Dat.int IntKind.i64 v_b0, Own.none), (Dat.int IntKind.i64 v_b1, Own.none), (Dat.str v_b2, Own.none)]], [] => X v_op v_a0 v_a1 v_a2 v_b0 v_b1 v_b2 γ (fun r0 => K ([(AVal.dat (Dat.int IntKind.i64 r0), Own.none)], []))
  | a, s => F a s γ K
def T_calc_compare (x_value_Equal : Ty_value_Equal) (x_value_Not : Ty_value_Not) (x_value_Less : Ty_value_Less) : CallK := (addK (addK (addK noneK 62 (P_value_Equal x_value_Equal none3)) 48 (P_value_Not x_value_Not none3)) 63 (P_value_Less x_value_Less none3))
def L_calc_compare (x_value_Equal : Ty_value_Equal) (x_value_Not : Ty_value_Not) (x_value_Less : Ty_value_Less) : LoopK := noneL
def Sp.B_calc_compare (x_value_Equal : Ty_value_Equal) (x_value_Not : Ty_value_Not) (x_value_Less : Ty_value_Less) (v_op : Int) (v_a0 : Int) (v_a1 : Int) (v_a2 : ByteArray) (v_b0 : Int) (v_b1 : Int) (v_b2 : ByteArray) (γ : Type) (K : Int → Option γ) : Option γ := bif decide (v_op = 4) then x_value_Equal v_a0 v_a1 v_a2 v_b0 v_b1 v_b2 γ fun (z9 : Int) => K z9 else bif decide (v_op = 5) then x_value_Equal v_a0 v_a1 v_a2 v_b0 v_b1 v_b2 γ fun (z10 : Int) => x_value_Not z10 γ fun (z11 : Int) => K z11 else bif decide (v_op = 6) then x_value_Less v_a0 v_a1 v_a2 v_b0 v_b1 v_b2 γ fun (z12 : Int) => K z12 else bif decide (v_op = 8) then x_value_Less v_b0 v_b1 v_b2 v_a0 v_a1 v_a2 γ fun (z13 : Int) => K z13 else bif decide (v_op = 7) then x_value_Less v_b0 v_b1 v_b2 v_a0 v_a1 v_a2 γ fun (z14 : Int) => x_value_Not z14 γ fun (z15 : Int) => K z15 else x_value_Less v_a0 v_a1 v_a2 v_b0 v_b1 v_b2 γ fun (z16 : Int) => x_value_Not z16 γ fun (z17 : Int) => K z17
theorem e_calc_compare (p : Par) (x_value_Equal : Ty_value_Equal) (x_value_Not : Ty_value_Not) (x_value_Less : Ty_value_Less) (v_op : Int) (v_a0 : Int) (v_a1 : Int) (v_a2 : ByteArray) (v_b0 : Int) (v_b1 : Int) (v_b2 : ByteArray) (γ : Type) (K : List Ent × Sig → Option γ) : evFK (cfg p) (T_calc_compare x_value_Equal x_value_Not x_value_Less) (L_calc_compare x_value_Equal x_value_Not x_value_Less) 50 [AVal.dat (Dat.int IntKind.i64 v_op), AVal.agg [(Dat.int IntKind.i64 v_a0, Own.none), (Dat.int IntKind.i64 v_a1, Own.none), (Dat.str v_a2, Own.none)], AVal.agg [(Dat.int IntKind.i64 v_b0, Own.none), (Dat.int IntKind.i64 v_b1, Own.none), (Dat.str v_b2, Own.none)]] [] γ K = Sp.B_calc_compare x_value_Equal x_value_Not x_value_Less v_op v_a0 v_a1 v_a2 v_b0 v_b1 v_b2 γ (fun r0 => K ([(AVal.dat (Dat.int IntKind.i64 r0), Own.none)], [])) := by kernel_rfl
def Sp.calc_compare : Ty_calc_compare := Sp.B_calc_compare Sp.value_Equal Sp.value_Not Sp.value_Less
theorem E_calc_compare (p : Par) {F : Ent3} (hF : EntOk (cfg p) 50 F) : EntOk (cfg p) 50 (P_calc_compare Sp.calc_compare F) := by
  intro a s γ K q h
  unfold P_calc_compare at h
  split at h
  · exact body_ok (tab_call (tab_call (tab_call (tab_nil _) (E_value_Equal p (ent_none _ _))) (E_value_Not p (ent_none _ _))) (E_value_Less p (ent_none _ _))) rfl ((e_calc_compare p _ _ _ _ _ _ _ _ _ _ _ _).trans h)
  · exact hF _ _ _ _ _ h
abbrev Ty_calc_numbers_L0 : Type 1 := Int → List (List Dat) → Int → Bool → Bool → Int → Int → Int → ByteArray → Int → Int → (γ : Type) → (Ex → Bool → Bool → Int → Int → Int → ByteArray → Int → Int → Option γ) → Option γ
def P_calc_numbers_L0 (X : Ty_calc_numbers_L0) (F : Loop3) : Loop3 := fun a s γ K => match a, s with
  | [AVal.dat (Dat.int IntKind.i64 v_op), AVal.loc 4 0, AVal.loc 6 0, AVal.dat (Dat.sl v_), AVal.dat (Dat.int IntKind.i64 v__1)], ([AVal.dat (Dat.bool v__2), AVal.dat (Dat.bool v_null), AVal.dat (Dat.int IntKind.i64 v__3), AVal.agg [(Dat.int IntKind.i64 v_box0, Own.none), (Dat.int IntKind.i64 v_box1, Own.none), (Dat.str v_box2, Own.none)], AVal.agg [(Dat.int IntKind.i64 v_box0_1, Own.none), (Dat.int IntKind.i64 v_box1_1, Own.none)]], []) => X v_op v_ v__1 v__2 v_null v__3 v_box0 v_box1 v_box2 v_box0_1 v_box1_1 γ (fun e x0 x1 x2 x3 x4 x5 x6 x7 => K (e, ([AVal.dat (Dat.bool x0), AVal.dat (Dat.bool x1), AVal.dat (Dat.int IntKind.i64 x2), AVal.agg [(Dat.int IntKind.i64 x3, Own.none), (Dat.int IntKind.i64 x4, Own.none), (Dat.str x5, Own.none)], AVal.agg [(Dat.int IntKind.i64 x6, Own.none), (Dat.int IntKind.i64 x7, Own.none)]], [])))
  | a, s => F a s γ K
def T_calc_numbers_L0 (x_value_Check : Ty_value_Check) : CallK := (addK noneK 39 (P_value_Check x_value_Check none3))
def L_calc_numbers_L0 (x_value_Check : Ty_value_Check) : LoopK := noneL
def Sp.B_calc_numbers_L0 (x_calc_numbers_L0 : Ty_calc_numbers_L0) (x_value_Check : Ty_value_Check) (v_op : Int) (v_ : List (List Dat)) (v__1 : Int) (v__2 : Bool) (v_null : Bool) (v__3 : Int) (v_box0 : Int) (v_box1 : Int) (v_box2 : ByteArray) (v_box0_1 : Int) (v_box1_1 : Int) (γ : Type) (K : Ex → Bool → Bool → Int → Int → Int → ByteArray → Int → Int → Option γ) : Option γ := bif decide (v__3 < v__1) then elemAt v_ v__3 fun (z13 : List Dat) => bif List.length z13 == 3 then cellAt z13 0 fun (z14 : Dat) => Aev.asInt IntKind.i64 z14 fun (z15 : Int) => cellAt z13 1 fun (z16 : Dat) => Aev.asInt IntKind.i64 z16 fun (z17 : Int) => cellAt z13 2 fun (z18 : Dat) => asStr z18 fun (z19 : ByteArray) => bif v_null then bif !decide (z15 = 2) then bif !decide (z15 = 0) then K Ex.ret false true v__3 0 0 (bs []) v_box0_1 v_box1_1 else x_value_Check z15 z17 z19 γ fun (z20 : Int) => bif !decide (z20 = 0) then K Ex.ret false true v__3 0 0 (bs []) v_box0_1 v_box1_1 else bif decide (0 ≤ v__3) && decide (v__3 < 2) then bif decide (Int.toNat v__3 = 0) then x_calc_numbers_L0 v_op v_ v__1 v__2 true (IntKind.wrap IntKind.i64 (v__3 + 1)) v_box0 v_box1 v_box2 z17 v_box1_1 γ K else bif decide (Int.toNat v__3 = 1) then x_calc_numbers_L0 v_op v_ v__1 v__2 true (IntKind.wrap IntKind.i64 (v__3 + 1)) v_box0 v_box1 v_box2 v_box0_1 z17 γ K else none else none else x_value_Check z15 z17 z19 γ fun (z21 : Int) => bif !decide (z21 = 0) then K Ex.ret false true v__3 0 0 (bs []) v_box0_1 v_box1_1 else bif decide (0 ≤ v__3) && decide (v__3 < 2) then bif decide (Int.toNat v__3 = 0) then x_calc_numbers_L0 v_op v_ v__1 v__2 true (IntKind.wrap IntKind.i64 (v__3 + 1)) v_box0 v_box1 v_box2 z17 v_box1_1 γ K else bif decide (Int.toNat v__3 = 1) then x_calc_numbers_L0 v_op v_ v__1 v__2 true (IntKind.wrap IntKind.i64 (v__3 + 1)) v_box0 v_box1 v_box2 v_box0_1 z17 γ K else none else none else bif !decide (z15 = 2) then bif !decide (z15 = 0) then K Ex.ret false (decide (z15 = 0)) v__3 0 0 (bs []) v_box0_1 v_box1_1 else x_value_Check z15 z17 z19 γ fun (z22 : Int) => bif !decide (z22 = 0) then K Ex.ret false (decide (z15 = 0)) v__3 0 0 (bs []) v_box0_1 v_box1_1 else bif decide (0 ≤ v__3) && decide (v__3 < 2) then bif decide (Int.toNat v__3 = 0) then x_calc_numbers_L0 v_op v_ v__1 v__2 (decide (z15 = 0)) (IntKind.wrap IntKind.i64 (v__3 + 1)) v_box0 v_box1 v_box2 z17 v_box1_1 γ K else bif decide (Int.toNat v__3 = 1) then x_calc_numbers_L0 v_op v_ v__1 v__2 (decide (z15 = 0)) (IntKind.wrap IntKind.i64 (v__3 + 1)) v_box0 v_box1 v_box2 v_box0_1 z17 γ K else none else none else x_value_Check z15 z17 z19 γ fun (z23 : Int) => bif !decide (z23 = 0) then K Ex.ret false (decide (z15 = 0)) v__3 0 0 (bs []) v_box0_1 v_box1_1 else bif decide (0 ≤ v__3) && decide (v__3 < 2) then bif decide (Int.toNat v__3 = 0) then x_calc_numbers_L0 v_op v_ v__1 v__2 (decide (z15 = 0)) (IntKind.wrap IntKind.i64 (v__3 + 1)) v_box0 v_box1 v_box2 z17 v_box1_1 γ K else bif decide (Int.toNat v__3 = 1) then x_calc_numbers_L0 v_op v_ v__1 v__2 (decide (z15 = 0)) (IntKind.wrap IntKind.i64 (v__3 + 1)) v_box0 v_box1 v_box2 v_box0_1 z17 γ K else none else none else none else K (Ex.exit 0) v__2 v_null v__3 v_box0 v_box1 v_box2 v_box0_1 v_box1_1
theorem e_calc_numbers_L0 (p : Par) (x_calc_numbers_L0 : Ty_calc_numbers_L0) (x_value_Check : Ty_value_Check) (v_op : Int) (v_ : List (List Dat)) (v__1 : Int) (v__2 : Bool) (v_null : Bool) (v__3 : Int) (v_box0 : Int) (v_box1 : Int) (v_box2 : ByteArray) (v_box0_1 : Int) (v_box1_1 : Int) (γ : Type) (K : Ex × Vars → Option γ) : roundK (cfg p) (T_calc_numbers_L0 x_value_Check) (L_calc_numbers_L0 x_value_Check) 51 0 [AVal.dat (Dat.int IntKind.i64 v_op), AVal.loc 4 0, AVal.loc 6 0, AVal.dat (Dat.sl v_), AVal.dat (Dat.int IntKind.i64 v__1)] ([AVal.dat (Dat.bool v__2), AVal.dat (Dat.bool v_null), AVal.dat (Dat.int IntKind.i64 v__3), AVal.agg [(Dat.int IntKind.i64 v_box0, Own.none), (Dat.int IntKind.i64 v_box1, Own.none), (Dat.str v_box2, Own.none)], AVal.agg [(Dat.int IntKind.i64 v_box0_1, Own.none), (Dat.int IntKind.i64 v_box1_1, Own.none)]], []) γ (contL (fun v => P_calc_numbers_L0 x_calc_numbers_L0 noneL3 [AVal.dat (Dat.int IntKind.i64 v_op), AVal.loc 4 0, AVal.loc 6 0, AVal.dat (Dat.sl v_), AVal.dat (Dat.int IntKind.i64 v__1)] v γ K) K) = Sp.B_calc_numbers_L0 x_calc_numbers_L0 x_value_Check v_op v_ v__1 v__2 v_null v__3 v_box0 v_box1 v_box2 v_box0_1 v_box1_1 γ (fun e x0 x1 x2 x3 x4 x5 x6 x7 => K (e, ([AVal.dat (Dat.bool x0), AVal.dat (Dat.bool x1), AVal.dat (Dat.int IntKind.i64 x2), AVal.agg [(Dat.int IntKind.i64 x3, Own.none), (Dat.int IntKind.i64 x4, Own.none), (Dat.str x5, Own.none)], AVal.agg [(Dat.int IntKind.i64 x6, Own.none), (Dat.int IntKind.i64 x7, Own.none)]], []))) := by kernel_rfl
def Sp.calc_numbers_L0 : Nat → Ty_calc_numbers_L0
  | 0 => fun _ _ _ _ _ _ _ _ _ _ _ _ _ => none
  | n + 1 => Sp.B_calc_numbers_L0 (Sp.calc_numbers_L0 n) Sp.value_Check
theorem E0_calc_numbers_L0 (p : Par)   : ∀ n, EntOkL (cfg p) 51 0 (P_calc_numbers_L0 (Sp.calc_numbers_L0  n) noneL3) := entL_rounds (tab_call (tab_nil _) (E_value_Check p (ent_none _ _))) (by kernel_rfl) (fun c v γ K => by unfold P_calc_numbers_L0; split <;> rfl) fun n c v γ K q h => by
  unfold P_calc_numbers_L0 at h
  split at h
  · exact (e_calc_numbers_L0 p _ _ _ _ _ _ _ _ _ _ _ _ _ _ _).trans h
  · cases h
theorem E_calc_numbers_L0 (p : Par)   (n : Nat) {F : Loop3} (hF : EntOkL (cfg p) 51 0 F) : EntOkL (cfg p) 51 0 (P_calc_numbers_L0 (Sp.calc_numbers_L0  n) F) := by
  intro c v γ K q h
  unfold P_calc_numbers_L0 at h
  split at h
  · exact E0_calc_numbers_L0 p   n _ _ _ _ _ h
  · exact hF _ _ _ _ _ h
abbrev Ty_calc_within : Type 1 := Int → (γ : Type) → (Bool → Option γ) → Option γ
def P_calc_within (X : Ty_calc_within) (F : Ent3) : Ent3 := fun a s γ K => match a, s with
  | [AVal.dat (Dat.int IntKind.i64 v_n)], [] => X v_n γ (fun r0 => K ([(AVal.dat (Dat.bool r0), Own.none)], []))
  | a, s => F a s γ K
def T_calc_within  : CallK := noneK
def L_calc_within  : LoopK := noneL
def Sp.B_calc_within  (v_n : Int) (γ : Type) (K : Bool → Option γ) : Option γ := bif decide (-9007199254740991 ≤ v_n) then K (decide (v_n ≤ 9007199254740991)) else K false
theorem e_calc_within (p : Par)  (v_n : Int) (γ : Type) (K : List Ent × Sig → Option γ) : evFK (cfg p) (T_calc_within ) (L_calc_within ) 42 [AVal.dat (Dat.int IntKind.i64 v_n)] [] γ K = Sp.B_calc_within  v_n γ (fun r0 => K ([(AVal.dat (Dat.bool r0), Own.none)], [])) := by kernel_rfl
def Sp.calc_within : Ty_calc_within := Sp.B_calc_within 
theorem E_calc_within (p : Par) {F : Ent3} (hF : EntOk (cfg p) 42 F) : EntOk (cfg p) 42 (P_calc_within Sp.calc_within F) := by
  intro a s γ K q h
  unfold P_calc_within at h
  split at h
  · exact body_ok (tab_nil _) rfl ((e_calc_within p  _ _ _).trans h)
  · exact hF _ _ _ _ _ h
abbrev Ty_calc_size : Type 1 := Int → (γ : Type) → (Int → Option γ) → Option γ
def P_calc_size (X : Ty_calc_size) (F : Ent3) : Ent3 := fun a s γ K => match a, s with
  | [AVal.dat (Dat.int IntKind.i64 v_n)], [] => X v_n γ (fun r0 => K ([(AVal.dat (Dat.int IntKind.i64 r0), Own.none)], []))
  | a, s => F a s γ K
def T_calc_size  : CallK := noneK
def L_calc_size  : LoopK := noneL
def Sp.B_calc_size  (v_n : Int) (γ : Type) (K : Int → Option γ) : Option γ := K (max v_n (IntKind.wrap IntKind.i64 (0 - v_n)))
theorem e_calc_size (p : Par)  (v_n : Int) (γ : Type) (K : List Ent × Sig → Option γ) : evFK (cfg p) (T_calc_size ) (L_calc_size ) 82 [AVal.dat (Dat.int IntKind.i64 v_n)] [] γ K = Sp.B_calc_size  v_n γ (fun r0 => K ([(AVal.dat (Dat.int IntKind.i64 r0), Own.none)], [])) := by kernel_rfl
def Sp.calc_size : Ty_calc_size := Sp.B_calc_size 
theorem E_calc_size (p : Par) {F : Ent3} (hF : EntOk (cfg p) 82 F) : EntOk (cfg p) 82 (P_calc_size Sp.calc_size F) := by
  intro a s γ K q h
  unfold P_calc_size at h
  split at h
  · exact body_ok (tab_nil _) rfl ((e_calc_size p  _ _ _).trans h)
  · exact hF _ _ _ _ _ h
abbrev Ty_calc_fits : Type 1 := Int → Int → (γ : Type) → (Bool → Option γ) → Option γ
def P_calc_fits (X : Ty_calc_fits) (F : Ent3) : Ent3 := fun a s γ K => match a, s with
  | [AVal.dat (Dat.int IntKind.i64 v_a), AVal.dat (Dat.int IntKind.i64 v_b)], [] => X v_a v_b γ (fun r0 => K ([(AVal.dat (Dat.bool r0), Own.none)], []))
  | a, s => F a s γ K
def T_calc_fits (x_calc_size : Ty_calc_size) : CallK := (addK noneK 82 (P_calc_size x_calc_size none3))
def L_calc_fits (x_calc_size : Ty_calc_size) : LoopK := noneL
def Sp.B_calc_fits (x_calc_size : Ty_calc_size) (v_a : Int) (v_b : Int) (γ : Type) (K : Bool → Option γ) : Option γ := bif decide (v_a = 0) then K true else x_calc_size v_b γ fun (z4 : Int) => x_calc_size v_a γ fun (z5 : Int) => bif !decide (z5 = 0) then K (decide (z4 ≤ IntKind.wrap IntKind.i64 (Int.tdiv 9007199254740991 z5))) else none
theorem e_calc_fits (p : Par) (x_calc_size : Ty_calc_size) (v_a : Int) (v_b : Int) (γ : Type) (K : List Ent × Sig → Option γ) : evFK (cfg p) (T_calc_fits x_calc_size) (L_calc_fits x_calc_size) 73 [AVal.dat (Dat.int IntKind.i64 v_a), AVal.dat (Dat.int IntKind.i64 v_b)] [] γ K = Sp.B_calc_fits x_calc_size v_a v_b γ (fun r0 => K ([(AVal.dat (Dat.bool r0), Own.none)], [])) := by kernel_rfl
def Sp.calc_fits : Ty_calc_fits := Sp.B_calc_fits Sp.calc_size
theorem E_calc_fits (p : Par) {F : Ent3} (hF : EntOk (cfg p) 73 F) : EntOk (cfg p) 73 (P_calc_fits Sp.calc_fits F) := by
  intro a s γ K q h
  unfold P_calc_fits at h
  split at h
  · exact body_ok (tab_call (tab_nil _) (E_calc_size p (ent_none _ _))) rfl ((e_calc_fits p _ _ _ _ _).trans h)
  · exact hF _ _ _ _ _ h
abbrev Ty_calc_arith : Type 1 := Int → Int → Int → (γ : Type) → (Int → Bool → Option γ) → Option γ
def P_calc_arith (X : Ty_calc_arith) (F : Ent3) : Ent3 := fun a s γ K => match a, s with
  | [AVal.dat (Dat.int IntKind.i64 v_op), AVal.dat (Dat.int IntKind.i64 v_a), AVal.dat (Dat.int IntKind.i64 v_b)], [] => X v_op v_a v_b γ (fun r0 r1 => K ([(AVal.dat (Dat.int IntKind.i64 r0), Own.none), (AVal.dat (Dat.bool r1), Own.none)], []))
  | a, s => F a s γ K
def T_calc_arith (x_calc_within : Ty_calc_within) (x_calc_fits : Ty_calc_fits) : CallK := (addK (addK noneK 42 (P_calc_within x_calc_within none3)) 73 (P_calc_fits x_calc_fits none3))
def L_calc_arith (x_calc_within : Ty_calc_within) (x_calc_fits : Ty_calc_fits) : LoopK := noneL
def Sp.B_calc_arith (x_calc_within : Ty_calc_within) (x_calc_fits : Ty_calc_fits) (v_op : Int) (v_a : Int) (v_b : Int) (γ : Type) (K : Int → Bool → Option γ) : Option γ := bif decide (v_op = 10) then x_calc_within (IntKind.wrap IntKind.i64 (v_a + v_b)) γ fun (z5 : Bool) => K (IntKind.wrap IntKind.i64 (v_a + v_b)) z5 else bif decide (v_op = 11) then x_calc_within (IntKind.wrap IntKind.i64 (v_a - v_b)) γ fun (z6 : Bool) => K (IntKind.wrap IntKind.i64 (v_a - v_b)) z6 else bif decide (v_op = 12) then x_calc_fits v_a v_b γ fun (z7 : Bool) => bif !z7 then K 0 false else K (IntKind.wrap IntKind.i64 (v_a * v_b)) true else bif decide (v_op = 15) then K (IntKind.wrap IntKind.i64 (0 - v_a)) true else bif decide (v_b = 0) then K 0 false else bif decide (v_op = 13) then bif !decide (v_b = 0) then K (IntKind.wrap IntKind.i64 (Int.tdiv v_a v_b)) true else none else bif !decide (v_b = 0) then K (Int.tmod v_a v_b) true else none
theorem e_calc_arith (p : Par) (x_calc_within : Ty_calc_within) (x_calc_fits : Ty_calc_fits) (v_op : Int) (v_a : Int) (v_b : Int) (γ : Type) (K : List Ent × Sig → Option γ) : evFK (cfg p) (T_calc_arith x_calc_within x_calc_fits) (L_calc_arith x_calc_within x_calc_fits) 64 [AVal.dat (Dat.int IntKind.i64 v_op), AVal.dat (Dat.int IntKind.i64 v_a), AVal.dat (Dat.int IntKind.i64 v_b)] [] γ K = Sp.B_calc_arith x_calc_within x_calc_fits v_op v_a v_b γ (fun r0 r1 => K ([(AVal.dat (Dat.int IntKind.i64 r0), Own.none), (AVal.dat (Dat.bool r1), Own.none)], [])) := by kernel_rfl
def Sp.calc_arith : Ty_calc_arith := Sp.B_calc_arith Sp.calc_within Sp.calc_fits
theorem E_calc_arith (p : Par) {F : Ent3} (hF : EntOk (cfg p) 64 F) : EntOk (cfg p) 64 (P_calc_arith Sp.calc_arith F) := by
  intro a s γ K q h
  unfold P_calc_arith at h
  split at h
  · exact body_ok (tab_call (tab_call (tab_nil _) (E_calc_within p (ent_none _ _))) (E_calc_fits p (ent_none _ _))) rfl ((e_calc_arith p _ _ _ _ _ _ _).trans h)
  · exact hF _ _ _ _ _ h
abbrev Ty_value_Int : Type 1 := Int → (γ : Type) → (Int → Int → ByteArray → Option γ) → Option γ
def P_value_Int (X : Ty_value_Int) (F : Ent3) : Ent3 := fun a s γ K => match a, s with
  | [AVal.dat (Dat.int IntKind.i64 v_n)], [] => X v_n γ (fun r0 r1 r2 => K ([(AVal.agg [(Dat.int IntKind.i64 r0, Own.none), (Dat.int IntKind.i64 r1, Own.none), (Dat.str r2, Own.none)], Own.none)], []))
  | a, s => F a s γ K
def T_value_Int  : CallK := noneK
def L_value_Int  : LoopK := noneL
def Sp.B_value_Int  (v_n : Int) (γ : Type) (K : Int → Int → ByteArray → Option γ) : Option γ := K 2 v_n (bs [])
theorem e_value_Int (p : Par)  (v_n : Int) (γ : Type) (K : List Ent × Sig → Option γ) : evFK (cfg p) (T_value_Int ) (L_value_Int ) 29 [AVal.dat (Dat.int IntKind.i64 v_n)] [] γ K = Sp.B_value_Int  v_n γ (fun r0 r1 r2 => K ([(AVal.agg [(Dat.int IntKind.i64 r0, Own.none), (Dat.int IntKind.i64 r1, Own.none), (Dat.str r2, Own.none)], Own.none)], [])) := by kernel_rfl
def Sp.value_Int : Ty_value_Int := Sp.B_value_Int 
theorem E_value_Int (p : Par) {F : Ent3} (hF : EntOk (cfg p) 29 F) : EntOk (cfg p) 29 (P_value_Int Sp.value_Int F) := by
  intro a s γ K q h
  unfold P_value_Int at h
  split at h
  · exact body_ok (tab_nil _) rfl ((e_value_Int p  _ _ _).trans h)
  · exact hF _ _ _ _ _ h
abbrev Ty_calc_numbers : Type 1 := Int → List (List Dat) → (γ : Type) → (Int → Int → ByteArray → Bool → Option γ) → Option γ
def P_calc_numbers (X : Ty_calc_numbers) (F : Ent3) : Ent3 := fun a s γ K => match a, s with
  | [AVal.dat (Dat.int IntKind.i64 v_op), AVal.dat (Dat.sl v_l)], [] => X v_op v_l γ (fun r0 r1 r2 r3 => K ([(AVal.agg [(Dat.int IntKind.i64 r0, Own.none), (Dat.int IntKind.i64 r1, Own.none), (Dat.str r2, Own.none)], Own.none), (AVal.dat (Dat.bool r3), Own.none)], []))
  | a, s => F a s γ K
def T_calc_numbers (x_calc_numbers_L0 : Ty_calc_numbers_L0) (x_value_Null : Ty_value_Null) (x_calc_arith : Ty_calc_arith) (x_value_Int : Ty_value_Int) : CallK := (addK (addK (addK noneK 38 (P_value_Null x_value_Null none3)) 64 (P_calc_arith x_calc_arith none3)) 29 (P_value_Int x_value_Int none3))
def L_calc_numbers (x_calc_numbers_L0 : Ty_calc_numbers_L0) (x_value_Null : Ty_value_Null) (x_calc_arith : Ty_calc_arith) (x_value_Int : Ty_value_Int) : LoopK := (addL noneL 51 0 (P_calc_numbers_L0 x_calc_numbers_L0 noneL3))
def Sp.B_calc_numbers (x_calc_numbers_L0 : Ty_calc_numbers_L0) (x_value_Null : Ty_value_Null) (x_calc_arith : Ty_calc_arith) (x_value_Int : Ty_value_Int) (v_op : Int) (v_l : List (List Dat)) (γ : Type) (K : Int → Int → ByteArray → Bool → Option γ) : Option γ := x_calc_numbers_L0 v_op v_l (Int.ofNat (List.length v_l)) false false 0 0 0 (bs []) 0 0 γ fun (z4 : Ex) (z5 z6 : Bool) (z7 z8 z9 : Int) (z10 : ByteArray) (z11 z12 : Int) => bif Ex.isExit z4 0 then bif z6 then x_value_Null γ fun (z13 z14 : Int) (z15 : ByteArray) => K z13 z14 z15 true else x_calc_arith v_op z11 z12 γ fun (z16 : Int) (z17 : Bool) => bif !z17 then K 0 0 (bs []) false else x_value_Int z16 γ fun (z18 z19 : Int) (z20 : ByteArray) => K z18 z19 z20 true else bif Ex.isRet z4 then K z8 z9 z10 z5 else none
theorem e_calc_numbers (p : Par) (x_calc_numbers_L0 : Ty_calc_numbers_L0) (x_value_Null : Ty_value_Null) (x_calc_arith : Ty_calc_arith) (x_value_Int : Ty_value_Int) (v_op : Int) (v_l : List (List Dat)) (γ : Type) (K : List Ent × Sig → Option γ) : evFK (cfg p) (T_calc_numbers x_calc_numbers_L0 x_value_Null x_calc_arith x_value_Int) (L_calc_numbers x_calc_numbers_L0 x_value_Null x_calc_arith x_value_Int) 51 [AVal.dat (Dat.int IntKind.i64 v_op), AVal.dat (Dat.sl v_l)] [] γ K = Sp.B_calc_numbers x_calc_numbers_L0 x_value_Null x_calc_arith x_value_Int v_op v_l γ (fun r0 r1 r2 r3 => K ([(AVal.agg [(Dat.int IntKind.i64 r0, Own.none), (Dat.int IntKind.i64 r1, Own.none), (Dat.str r2, Own.none)], Own.none), (AVal.dat (Dat.bool r3), Own.none)], [])) := by kernel_rfl
def Sp.calc_numbers : Ty_calc_numbers := Sp.B_calc_numbers (Sp.calc_numbers_L0 fuel) Sp.value_Null Sp.calc_arith Sp.value_Int
theorem E_calc_numbers (p : Par) {F : Ent3} (hF : EntOk (cfg p) 51 F) : EntOk (cfg p) 51 (P_calc_numbers Sp.calc_numbers F) := by
  intro a s γ K q h
  unfold P_calc_numbers at h
  split at h
  · exact body_ok (tab_loop (tab_call (tab_call (tab_call (tab_nil _) (E_value_Null p (ent_none _ _))) (E_calc_arith p (ent_none _ _))) (E_value_Int p (ent_none _ _))) (E_calc_numbers_L0 p fuel (entL_none _ _ _))) rfl ((e_calc_numbers p _ _ _ _ _ _ _ _).trans h)
  · exact hF _ _ _ _ _ h
abbrev Ty_calc_logic : Type 1 := Int → Int → Int → Int → ByteArray → ByteArray → ByteArray → List (List Dat) → List (List Dat) → (γ : Type) → (Int → Int → ByteArray → Bool → Option γ) → Option γ
def P_calc_logic (X : Ty_calc_logic) (F : Ent3) : Ent3 := fun a s γ K => match a, s with
  | [AVal.agg [(Dat.int IntKind.i64 v_e0, Own.none), (Dat.int IntKind.i64 v_e1, Own.none), (Dat.int IntKind.i64 v_e2, Own.none), (Dat.int IntKind.i64 v_e3, Own.none), (Dat.str v_e4, Own.none), (Dat.str v_e5, Own.none), (Dat.str v_e6, Own.none), (Dat.sl v_e7, Own.none)], AVal.dat (Dat.sl v_r)], [] => X v_e0 v_e1 v_e2 v_e3 v_e4 v_e5 v_e6 v_e7 v_r γ (fun r0 r1 r2 r3 => K ([(AVal.agg [(Dat.int IntKind.i64 r0, Own.none), (Dat.int IntKind.i64 r1, Own.none), (Dat.str r2, Own.none)], Own.none), (AVal.dat (Dat.bool r3), Own.none)], []))
  | a, s => F a s γ K
abbrev Ty_calc_op : Type 1 := Int → Int → Int → Int → ByteArray → ByteArray → ByteArray → List (List Dat) → List (List Dat) → (γ : Type) → (Int → Int → ByteArray → Bool → Option γ) → Option γ
def P_calc_op (X : Ty_calc_op) (F : Ent3) : Ent3 := fun a s γ K => match a, s with
  | [AVal.agg [(Dat.int IntKind.i64 v_e0, Own.none), (Dat.int IntKind.i64 v_e1, Own.none), (Dat.int IntKind.i64 v_e2, Own.none), (Dat.int IntKind.i64 v_e3, Own.none), (Dat.str v_e4, Own.none), (Dat.str v_e5, Own.none), (Dat.str v_e6, Own.none), (Dat.sl v_e7, Own.none)], AVal.dat (Dat.sl v_r)], [] => X v_e0 v_e1 v_e2 v_e3 v_e4 v_e5 v_e6 v_e7 v_r γ (fun r0 r1 r2 r3 => K ([(AVal.agg [(Dat.int IntKind.i64 r0, Own.none), (Dat.int IntKind.i64 r1, Own.none), (Dat.str r2, Own.none)], Own.none), (AVal.dat (Dat.bool r3), Own.none)], []))
  | a, s => F a s γ K
abbrev Ty_calc_eval : Type 1 := Int → Int → Int → Int → ByteArray → ByteArray → ByteArray → List (List Dat) → List (List Dat) → (γ : Type) → (Int → Int → ByteArray → Bool → Option γ) → Option γ
def P_calc_eval (X : Ty_calc_eval) (F : Ent3) : Ent3 := fun a s γ K => match a, s with
  | [AVal.agg [(Dat.int IntKind.i64 v_e0, Own.none), (Dat.int IntKind.i64 v_e1, Own.none), (Dat.int IntKind.i64 v_e2, Own.none), (Dat.int IntKind.i64 v_e3, Own.none), (Dat.str v_e4, Own.none), (Dat.str v_e5, Own.none), (Dat.str v_e6, Own.none), (Dat.sl v_e7, Own.none)], AVal.dat (Dat.sl v_r)], [] => X v_e0 v_e1 v_e2 v_e3 v_e4 v_e5 v_e6 v_e7 v_r γ (fun r0 r1 r2 r3 => K ([(AVal.agg [(Dat.int IntKind.i64 r0, Own.none), (Dat.int IntKind.i64 r1, Own.none), (Dat.str r2, Own.none)], Own.none), (AVal.dat (Dat.bool r3), Own.none)], []))
  | a, s => F a s γ K
abbrev Ty_calc_op_L0 : Type 1 := List (List Dat) → List (List Dat) → Int → Bool → List (List Dat) → Int → Int → Int → Int → Int → ByteArray → ByteArray → ByteArray → List (List Dat) → Int → Int → ByteArray → (γ : Type) → (Ex → Bool → List (List Dat) → Int → Int → Int → Int → Int → ByteArray → ByteArray → ByteArray → List (List Dat) → Int → Int → ByteArray → Option γ) → Option γ
def P_calc_op_L0 (X : Ty_calc_op_L0) (F : Loop3) : Loop3 := fun a s γ K => match a, s with
  | [AVal.dat (Dat.sl v_r), AVal.loc 2 0, AVal.loc 4 0, AVal.dat (Dat.sl v_), AVal.dat (Dat.int IntKind.i64 v__1)], ([AVal.dat (Dat.bool v__2), AVal.dat (Dat.sl v_l), AVal.dat (Dat.int IntKind.i64 v__3), AVal.agg [(Dat.int IntKind.i64 v_box0, Own.none), (Dat.int IntKind.i64 v_box1, Own.none), (Dat.int IntKind.i64 v_box2, Own.none), (Dat.int IntKind.i64 v_box3, Own.none), (Dat.str v_box4, Own.none), (Dat.str v_box5, Own.none), (Dat.str v_box6, Own.none), (Dat.sl v_box7, Own.none)], AVal.agg [(Dat.int IntKind.i64 v_box0_1, Own.none), (Dat.int IntKind.i64 v_box1_1, Own.none), (Dat.str v_box2_1, Own.none)]], []) => X v_r v_ v__1 v__2 v_l v__3 v_box0 v_box1 v_box2 v_box3 v_box4 v_box5 v_box6 v_box7 v_box0_1 v_box1_1 v_box2_1 γ (fun e x0 x1 x2 x3 x4 x5 x6 x7 x8 x9 x10 x11 x12 x13 => K (e, ([AVal.dat (Dat.bool x0), AVal.dat (Dat.sl x1), AVal.dat (Dat.int IntKind.i64 x2), AVal.agg [(Dat.int IntKind.i64 x3, Own.none), (Dat.int IntKind.i64 x4, Own.none), (Dat.int IntKind.i64 x5, Own.none), (Dat.int IntKind.i64 x6, Own.none), (Dat.str x7, Own.none), (Dat.str x8, Own.none), (Dat.str x9, Own.none), (Dat.sl x10, Own.none)], AVal.agg [(Dat.int IntKind.i64 x11, Own.none), (Dat.int IntKind.i64 x12, Own.none), (Dat.str x13, Own.none)]], [])))
  | a, s => F a s γ K
def T_calc_op_L0 (x_calc_eval : Ty_calc_eval) : CallK := (addK noneK 22 (P_calc_eval x_calc_eval none3))
def L_calc_op_L0 (x_calc_eval : Ty_calc_eval) : LoopK := noneL
def Sp.B_calc_op_L0 (x_calc_op_L0 : Ty_calc_op_L0) (x_calc_eval : Ty_calc_eval) (v_r : List (List Dat)) (v_ : List (List Dat)) (v__1 : Int) (v__2 : Bool) (v_l : List (List Dat)) (v__3 : Int) (v_box0 : Int) (v_box1 : Int) (v_box2 : Int) (v_box3 : Int) (v_box4 : ByteArray) (v_box5 : ByteArray) (v_box6 : ByteArray) (v_box7 : List (List Dat)) (v_box0_1 : Int) (v_box1_1 : Int) (v_box2_1 : ByteArray) (γ : Type) (K : Ex → Bool → List (List Dat) → Int → Int → Int → Int → Int → ByteArray → ByteArray → ByteArray → List (List Dat) → Int → Int → ByteArray → Option γ) : Option γ := bif sized v_l 3 then bif decide (v__3 < v__1) then elemAt v_ v__3 fun (z19 : List Dat) => bif List.length z19 == 8 then cellAt z19 0 fun (z20 : Dat) => Aev.asInt IntKind.i64 z20 fun (z21 : Int) => cellAt z19 1 fun (z22 : Dat) => Aev.asInt IntKind.i64 z22 fun (z23 : Int) => cellAt z19 2 fun (z24 : Dat) => Aev.asInt IntKind.i64 z24 fun (z25 : Int) => cellAt z19 3 fun (z26 : Dat) => Aev.asInt IntKind.i64 z26 fun (z27 : Int) => cellAt z19 4 fun (z28 : Dat) => asStr z28 fun (z29 : ByteArray) => cellAt z19 5 fun (z30 : Dat) => asStr z30 fun (z31 : ByteArray) => cellAt z19 6 fun (z32 : Dat) => asStr z32 fun (z33 : ByteArray) => cellAt z19 7 fun (z34 : Dat) => asSl z34 fun (z35 : List (List Dat)) => x_calc_eval z21 z23 z25 z27 z29 z31 z33 z35 v_r γ fun (z36 z37 : Int) (z38 : ByteArray) (z39 : Bool) => bif !z39 then K Ex.ret false v_l v__3 v_box0 v_box1 v_box2 v_box3 v_box4 v_box5 v_box6 v_box7 0 0 (bs []) else bif sized v_l 3 && true && true && decide ((List.length v_l + 1) * 33 ≤ 70368744177664) && true then x_calc_op_L0 v_r v_ v__1 v__2 (v_l ++ [[Dat.int IntKind.i64 z36, Dat.int IntKind.i64 z37, Dat.str z38]]) (IntKind.wrap IntKind.i64 (v__3 + 1)) v_box0 v_box1 v_box2 v_box3 v_box4 v_box5 v_box6 v_box7 v_box0_1 v_box1_1 v_box2_1 γ K else none else none else K (Ex.exit 0) v__2 v_l v__3 v_box0 v_box1 v_box2 v_box3 v_box4 v_box5 v_box6 v_box7 v_box0_1 v_box1_1 v_box2_1 else none
theorem e_calc_op_L0 (p : Par) (x_calc_op_L0 : Ty_calc_op_L0) (x_calc_eval : Ty_calc_eval) (v_r : List (List Dat)) (v_ : List (List Dat)) (v__1 : Int) (v__2 : Bool) (v_l : List (List Dat)) (v__3 : Int) (v_box0 : Int) (v_box1 : Int) (v_box2 : Int) (v_box3 : Int) (v_box4 : ByteArray) (v_box5 : ByteArray) (v_box6 : ByteArray) (v_box7 : List (List Dat)) (v_box0_1 : Int) (v_box1_1 : Int) (v_box2_1 : ByteArray) (γ : Type) (K : Ex × Vars → Option γ) : roundK (cfg p) (T_calc_op_L0 x_calc_eval) (L_calc_op_L0 x_calc_eval) 37 0 [AVal.dat (Dat.sl v_r), AVal.loc 2 0, AVal.loc 4 0, AVal.dat (Dat.sl v_), AVal.dat (Dat.int IntKind.i64 v__1)] ([AVal.dat (Dat.bool v__2), AVal.dat (Dat.sl v_l), AVal.dat (Dat.int IntKind.i64 v__3), AVal.agg [(Dat.int IntKind.i64 v_box0, Own.none), (Dat.int IntKind.i64 v_box1, Own.none), (Dat.int IntKind.i64 v_box2, Own.none), (Dat.int IntKind.i64 v_box3, Own.none), (Dat.str v_box4, Own.none), (Dat.str v_box5, Own.none), (Dat.str v_box6, Own.none), (Dat.sl v_box7, Own.none)], AVal.agg [(Dat.int IntKind.i64 v_box0_1, Own.none), (Dat.int IntKind.i64 v_box1_1, Own.none), (Dat.str v_box2_1, Own.none)]], []) γ (contL (fun v => P_calc_op_L0 x_calc_op_L0 noneL3 [AVal.dat (Dat.sl v_r), AVal.loc 2 0, AVal.loc 4 0, AVal.dat (Dat.sl v_), AVal.dat (Dat.int IntKind.i64 v__1)] v γ K) K) = Sp.B_calc_op_L0 x_calc_op_L0 x_calc_eval v_r v_ v__1 v__2 v_l v__3 v_box0 v_box1 v_box2 v_box3 v_box4 v_box5 v_box6 v_box7 v_box0_1 v_box1_1 v_box2_1 γ (fun e x0 x1 x2 x3 x4 x5 x6 x7 x8 x9 x10 x11 x12 x13 => K (e, ([AVal.dat (Dat.bool x0), AVal.dat (Dat.sl x1), AVal.dat (Dat.int IntKind.i64 x2), AVal.agg [(Dat.int IntKind.i64 x3, Own.none), (Dat.int IntKind.i64 x4, Own.none), (Dat.int IntKind.i64 x5, Own.none), (Dat.int IntKind.i64 x6, Own.none), (Dat.str x7, Own.none), (Dat.str x8, Own.none), (Dat.str x9, Own.none), (Dat.sl x10, Own.none)], AVal.agg [(Dat.int IntKind.i64 x11, Own.none), (Dat.int IntKind.i64 x12, Own.none), (Dat.str x13, Own.none)]], []))) := by kernel_rfl
def T_calc_logic (x_calc_eval : Ty_calc_eval) (x_value_Of : Ty_value_Of) (x_value_Truth : Ty_value_Truth) (x_value_Or : Ty_value_Or) (x_value_And : Ty_value_And) : CallK := (addK (addK (addK (addK (addK noneK 22 (P_calc_eval x_calc_eval none3)) 47 (P_value_Of x_value_Of none3)) 23 (P_value_Truth x_value_Truth none3)) 60 (P_value_Or x_value_Or none3)) 59 (P_value_And x_value_And none3))
def L_calc_logic (x_calc_eval : Ty_calc_eval) (x_value_Of : Ty_value_Of) (x_value_Truth : Ty_value_Truth) (x_value_Or : Ty_value_Or) (x_value_And : Ty_value_And) : LoopK := noneL
def Sp.B_calc_logic (x_calc_eval : Ty_calc_eval) (x_value_Of : Ty_value_Of) (x_value_Truth : Ty_value_Truth) (x_value_Or : Ty_value_Or) (x_value_And : Ty_value_And) (v_e0 : Int) (v_e1 : Int) (v_e2 : Int) (v_e3 : Int) (v_e4 : ByteArray) (v_e5 : ByteArray) (v_e6 : ByteArray) (v_e7 : List (List Dat)) (v_r : List (List Dat)) (γ : Type) (K : Int → Int → ByteArray → Bool → Option γ) : Option γ := bif decide (v_e1 = 1) then elemAt v_e7 0 fun (z11 : List Dat) => bif List.length z11 == 8 then cellAt z11 0 fun (z12 : Dat) => Aev.asInt IntKind.i64 z12 fun (z13 : Int) => cellAt z11 1 fun (z14 : Dat) => Aev.asInt IntKind.i64 z14 fun (z15 : Int) => cellAt z11 2 fun (z16 : Dat) => Aev.asInt IntKind.i64 z16 fun (z17 : Int) => cellAt z11 3 fun (z18 : Dat) => Aev.asInt IntKind.i64 z18 fun (z19 : Int) => cellAt z11 4 fun (z20 : Dat) => asStr z20 fun (z21 : ByteArray) => cellAt z11 5 fun (z22 : Dat) => asStr z22 fun (z23 : ByteArray) => cellAt z11 6 fun (z24 : Dat) => asStr z24 fun (z25 : ByteArray) => cellAt z11 7 fun (z26 : Dat) => asSl z26 fun (z27 : List (List Dat)) => x_calc_eval z13 z15 z17 z19 z21 z23 z25 z27 v_r γ fun (z28 z29 : Int) (z30 : ByteArray) (z31 : Bool) => bif !z31 then x_value_Of 1 γ fun (z32 z33 : Int) (z34 : ByteArray) => K z32 z33 z34 z31 else x_value_Truth z28 z29 z30 γ fun (z35 : Int) => bif decide (z35 = 1) then x_value_Of 1 γ fun (z36 z37 : Int) (z38 : ByteArray) => K z36 z37 z38 z31 else elemAt v_e7 1 fun (z39 : List Dat) => bif List.length z39 == 8 then cellAt z39 0 fun (z40 : Dat) => Aev.asInt IntKind.i64 z40 fun (z41 : Int) => cellAt z39 1 fun (z42 : Dat) => Aev.asInt IntKind.i64 z42 fun (z43 : Int) => cellAt z39 2 fun (z44 : Dat) => Aev.asInt IntKind.i64 z44 fun (z45 : Int) => cellAt z39 3 fun (z46 : Dat) => Aev.asInt IntKind.i64 z46 fun (z47 : Int) => cellAt z39 4 fun (z48 : Dat) => asStr z48 fun (z49 : ByteArray) => cellAt z39 5 fun (z50 : Dat) => asStr z50 fun (z51 : ByteArray) => cellAt z39 6 fun (z52 : Dat) => asStr z52 fun (z53 : ByteArray) => cellAt z39 7 fun (z54 : Dat) => asSl z54 fun (z55 : List (List Dat)) => x_calc_eval z41 z43 z45 z47 z49 z51 z53 z55 v_r γ fun (z56 z57 : Int) (z58 : ByteArray) (z59 : Bool) => x_value_Truth z28 z29 z30 γ fun (z60 : Int) => x_value_Truth z56 z57 z58 γ fun (z61 : Int) => x_value_Or z60 z61 γ fun (z62 : Int) => x_value_Of z62 γ fun (z63 z64 : Int) (z65 : ByteArray) => K z63 z64 z65 z59 else none else none else elemAt v_e7 0 fun (z66 : List Dat) => bif List.length z66 == 8 then cellAt z66 0 fun (z67 : Dat) => Aev.asInt IntKind.i64 z67 fun (z68 : Int) => cellAt z66 1 fun (z69 : Dat) => Aev.asInt IntKind.i64 z69 fun (z70 : Int) => cellAt z66 2 fun (z71 : Dat) => Aev.asInt IntKind.i64 z71 fun (z72 : Int) => cellAt z66 3 fun (z73 : Dat) => Aev.asInt IntKind.i64 z73 fun (z74 : Int) => cellAt z66 4 fun (z75 : Dat) => asStr z75 fun (z76 : ByteArray) => cellAt z66 5 fun (z77 : Dat) => asStr z77 fun (z78 : ByteArray) => cellAt z66 6 fun (z79 : Dat) => asStr z79 fun (z80 : ByteArray) => cellAt z66 7 fun (z81 : Dat) => asSl z81 fun (z82 : List (List Dat)) => x_calc_eval z68 z70 z72 z74 z76 z78 z80 z82 v_r γ fun (z83 z84 : Int) (z85 : ByteArray) (z86 : Bool) => bif !z86 then x_value_Of 0 γ fun (z87 z88 : Int) (z89 : ByteArray) => K z87 z88 z89 z86 else x_value_Truth z83 z84 z85 γ fun (z90 : Int) => bif decide (z90 = 0) then x_value_Of 0 γ fun (z91 z92 : Int) (z93 : ByteArray) => K z91 z92 z93 z86 else elemAt v_e7 1 fun (z94 : List Dat) => bif List.length z94 == 8 then cellAt z94 0 fun (z95 : Dat) => Aev.asInt IntKind.i64 z95 fun (z96 : Int) => cellAt z94 1 fun (z97 : Dat) => Aev.asInt IntKind.i64 z97 fun (z98 : Int) => cellAt z94 2 fun (z99 : Dat) => Aev.asInt IntKind.i64 z99 fun (z100 : Int) => cellAt z94 3 fun (z101 : Dat) => Aev.asInt IntKind.i64 z101 fun (z102 : Int) => cellAt z94 4 fun (z103 : Dat) => asStr z103 fun (z104 : ByteArray) => cellAt z94 5 fun (z105 : Dat) => asStr z105 fun (z106 : ByteArray) => cellAt z94 6 fun (z107 : Dat) => asStr z107 fun (z108 : ByteArray) => cellAt z94 7 fun (z109 : Dat) => asSl z109 fun (z110 : List (List Dat)) => x_calc_eval z96 z98 z100 z102 z104 z106 z108 z110 v_r γ fun (z111 z112 : Int) (z113 : ByteArray) (z114 : Bool) => x_value_Truth z83 z84 z85 γ fun (z115 : Int) => x_value_Truth z111 z112 z113 γ fun (z116 : Int) => x_value_And z115 z116 γ fun (z117 : Int) => x_value_Of z117 γ fun (z118 z119 : Int) (z120 : ByteArray) => K z118 z119 z120 z114 else none else none
theorem e_calc_logic (p : Par) (x_calc_eval : Ty_calc_eval) (x_value_Of : Ty_value_Of) (x_value_Truth : Ty_value_Truth) (x_value_Or : Ty_value_Or) (x_value_And : Ty_value_And) (v_e0 : Int) (v_e1 : Int) (v_e2 : Int) (v_e3 : Int) (v_e4 : ByteArray) (v_e5 : ByteArray) (v_e6 : ByteArray) (v_e7 : List (List Dat)) (v_r : List (List Dat)) (γ : Type) (K : List Ent × Sig → Option γ) : evFK (cfg p) (T_calc_logic x_calc_eval x_value_Of x_value_Truth x_value_Or x_value_And) (L_calc_logic x_calc_eval x_value_Of x_value_Truth x_value_Or x_value_And) 46 [AVal.agg [(Dat.int IntKind.i64 v_e0, Own.none), (Dat.int IntKind.i64 v_e1, Own.none), (Dat.int IntKind.i64 v_e2, Own.none), (Dat.int IntKind.i64 v_e3, Own.none), (Dat.str v_e4, Own.none), (Dat.str v_e5, Own.none), (Dat.str v_e6, Own.none), (Dat.sl v_e7, Own.none)], AVal.dat (Dat.sl v_r)] [] γ K = Sp.B_calc_logic x_calc_eval x_value_Of x_value_Truth x_value_Or x_value_And v_e0 v_e1 v_e2 v_e3 v_e4 v_e5 v_e6 v_e7 v_r γ (fun r0 r1 r2 r3 => K ([(AVal.agg [(Dat.int IntKind.i64 r0, Own.none), (Dat.int IntKind.i64 r1, Own.none), (Dat.str r2, Own.none)], Own.none), (AVal.dat (Dat.bool r3), Own.none)], [])) := by kernel_rfl
def T_calc_op (x_calc_logic : Ty_calc_logic) (x_calc_op_L0 : Ty_calc_op_L0) (x_value_Truth : Ty_value_Truth) (x_value_Not : Ty_value_Not) (x_value_Of : Ty_value_Of) (x_value_Bool : Ty_value_Bool) (x_calc_compare : Ty_calc_compare) (x_calc_numbers : Ty_calc_numbers) : CallK := (addK (addK (addK (addK (addK (addK (addK noneK 46 (P_calc_logic x_calc_logic none3)) 23 (P_value_Truth x_value_Truth none3)) 48 (P_value_Not x_value_Not none3)) 47 (P_value_Of x_value_Of none3)) 49 (P_value_Bool x_value_Bool none3)) 50 (P_calc_compare x_calc_compare none3)) 51 (P_calc_numbers x_calc_numbers none3))
def L_calc_op (x_calc_logic : Ty_calc_logic) (x_calc_op_L0 : Ty_calc_op_L0) (x_value_Truth : Ty_value_Truth) (x_value_Not : Ty_value_Not) (x_value_Of : Ty_value_Of) (x_value_Bool : Ty_value_Bool) (x_calc_compare : Ty_calc_compare) (x_calc_numbers : Ty_calc_numbers) : LoopK := (addL noneL 37 0 (P_calc_op_L0 x_calc_op_L0 noneL3))
def Sp.B_calc_op (x_calc_logic : Ty_calc_logic) (x_calc_op_L0 : Ty_calc_op_L0) (x_value_Truth : Ty_value_Truth) (x_value_Not : Ty_value_Not) (x_value_Of : Ty_value_Of) (x_value_Bool : Ty_value_Bool) (x_calc_compare : Ty_calc_compare) (x_calc_numbers : Ty_calc_numbers) (v_e0 : Int) (v_e1 : Int) (v_e2 : Int) (v_e3 : Int) (v_e4 : ByteArray) (v_e5 : ByteArray) (v_e6 : ByteArray) (v_e7 : List (List Dat)) (v_r : List (List Dat)) (γ : Type) (K : Int → Int → ByteArray → Bool → Option γ) : Option γ := bif decide (v_e1 = 2) then x_calc_logic v_e0 v_e1 v_e2 v_e3 v_e4 v_e5 v_e6 v_e7 v_r γ fun (z11 z12 : Int) (z13 : ByteArray) (z14 : Bool) => K z11 z12 z13 z14 else bif decide (v_e1 = 1) then x_calc_logic v_e0 v_e1 v_e2 v_e3 v_e4 v_e5 v_e6 v_e7 v_r γ fun (z15 z16 : Int) (z17 : ByteArray) (z18 : Bool) => K z15 z16 z17 z18 else x_calc_op_L0 v_r v_e7 (Int.ofNat (List.length v_e7)) false [] 0 v_e0 v_e1 v_e2 v_e3 v_e4 v_e5 v_e6 v_e7 0 0 (bs []) γ fun (z19 : Ex) (z20 : Bool) (z21 : List (List Dat)) (z22 z23 z24 z25 z26 : Int) (z27 z28 z29 : ByteArray) (z30 : List (List Dat)) (z31 z32 : Int) (z33 : ByteArray) => bif sized z21 3 then bif Ex.isExit z19 0 then bif decide (z24 = 3) then elemAt z21 0 fun (z34 : List Dat) => bif List.length z34 == 3 then cellAt z34 0 fun (z35 : Dat) => Aev.asInt IntKind.i64 z35 fun (z36 : Int) => cellAt z34 1 fun (z37 : Dat) => Aev.asInt IntKind.i64 z37 fun (z38 : Int) => cellAt z34 2 fun (z39 : Dat) => asStr z39 fun (z40 : ByteArray) => x_value_Truth z36 z38 z40 γ fun (z41 : Int) => x_value_Not z41 γ fun (z42 : Int) => x_value_Of z42 γ fun (z43 z44 : Int) (z45 : ByteArray) => K z43 z44 z45 true else none else bif decide (z24 = 16) then elemAt z21 0 fun (z46 : List Dat) => bif List.length z46 == 3 then cellAt (List.drop 0 z46) 0 fun (z47 : Dat) => Aev.asInt IntKind.i64 z47 fun (z48 : Int) => x_value_Bool (decide (z48 = 0) == decide (z24 = 16)) γ fun (z49 z50 : Int) (z51 : ByteArray) => K z49 z50 z51 true else none else bif decide (z24 = 17) then elemAt z21 0 fun (z52 : List Dat) => bif List.length z52 == 3 then cellAt (List.drop 0 z52) 0 fun (z53 : Dat) => Aev.asInt IntKind.i64 z53 fun (z54 : Int) => x_value_Bool (decide (z54 = 0) == decide (z24 = 16)) γ fun (z55 z56 : Int) (z57 : ByteArray) => K z55 z56 z57 true else none else bif decide (z24 ≤ 9) then elemAt z21 0 fun (z58 : List Dat) => bif List.length z58 == 3 then cellAt z58 0 fun (z59 : Dat) => Aev.asInt IntKind.i64 z59 fun (z60 : Int) => cellAt z58 1 fun (z61 : Dat) => Aev.asInt IntKind.i64 z61 fun (z62 : Int) => cellAt z58 2 fun (z63 : Dat) => asStr z63 fun (z64 : ByteArray) => elemAt z21 1 fun (z65 : List Dat) => bif List.length z65 == 3 then cellAt z65 0 fun (z66 : Dat) => Aev.asInt IntKind.i64 z66 fun (z67 : Int) => cellAt z65 1 fun (z68 : Dat) => Aev.asInt IntKind.i64 z68 fun (z69 : Int) => cellAt z65 2 fun (z70 : Dat) => asStr z70 fun (z71 : ByteArray) => x_calc_compare z24 z60 z62 z64 z67 z69 z71 γ fun (z72 : Int) => x_value_Of z72 γ fun (z73 z74 : Int) (z75 : ByteArray) => K z73 z74 z75 true else none else none else x_calc_numbers z24 z21 γ fun (z76 z77 : Int) (z78 : ByteArray) (z79 : Bool) => K z76 z77 z78 z79 else bif Ex.isRet z19 then K z31 z32 z33 z20 else none else none
theorem e_calc_op (p : Par) (x_calc_logic : Ty_calc_logic) (x_calc_op_L0 : Ty_calc_op_L0) (x_value_Truth : Ty_value_Truth) (x_value_Not : Ty_value_Not) (x_value_Of : Ty_value_Of) (x_value_Bool : Ty_value_Bool) (x_calc_compare : Ty_calc_compare) (x_calc_numbers : Ty_calc_numbers) (v_e0 : Int) (v_e1 : Int) (v_e2 : Int) (v_e3 : Int) (v_e4 : ByteArray) (v_e5 : ByteArray) (v_e6 : ByteArray) (v_e7 : List (List Dat)) (v_r : List (List Dat)) (γ : Type) (K : List Ent × Sig → Option γ) : evFK (cfg p) (T_calc_op x_calc_logic x_calc_op_L0 x_value_Truth x_value_Not x_value_Of x_value_Bool x_calc_compare x_calc_numbers) (L_calc_op x_calc_logic x_calc_op_L0 x_value_Truth x_value_Not x_value_Of x_value_Bool x_calc_compare x_calc_numbers) 37 [AVal.agg [(Dat.int IntKind.i64 v_e0, Own.none), (Dat.int IntKind.i64 v_e1, Own.none), (Dat.int IntKind.i64 v_e2, Own.none), (Dat.int IntKind.i64 v_e3, Own.none), (Dat.str v_e4, Own.none), (Dat.str v_e5, Own.none), (Dat.str v_e6, Own.none), (Dat.sl v_e7, Own.none)], AVal.dat (Dat.sl v_r)] [] γ K = Sp.B_calc_op x_calc_logic x_calc_op_L0 x_value_Truth x_value_Not x_value_Of x_value_Bool x_calc_compare x_calc_numbers v_e0 v_e1 v_e2 v_e3 v_e4 v_e5 v_e6 v_e7 v_r γ (fun r0 r1 r2 r3 => K ([(AVal.agg [(Dat.int IntKind.i64 r0, Own.none), (Dat.int IntKind.i64 r1, Own.none), (Dat.str r2, Own.none)], Own.none), (AVal.dat (Dat.bool r3), Own.none)], [])) := by kernel_rfl
def T_calc_eval (x_calc_op : Ty_calc_op) (x_value_Null : Ty_value_Null) : CallK := (addK (addK noneK 37 (P_calc_op x_calc_op none3)) 38 (P_value_Null x_value_Null none3))
def L_calc_eval (x_calc_op : Ty_calc_op) (x_value_Null : Ty_value_Null) : LoopK := noneL
def Sp.B_calc_eval (x_calc_op : Ty_calc_op) (x_value_Null : Ty_value_Null) (v_e0 : Int) (v_e1 : Int) (v_e2 : Int) (v_e3 : Int) (v_e4 : ByteArray) (v_e5 : ByteArray) (v_e6 : ByteArray) (v_e7 : List (List Dat)) (v_r : List (List Dat)) (γ : Type) (K : Int → Int → ByteArray → Bool → Option γ) : Option γ := bif decide (v_e0 = 1) then K v_e2 v_e3 v_e4 true else bif decide (v_e0 = 3) then x_calc_op v_e0 v_e1 v_e2 v_e3 v_e4 v_e5 v_e6 v_e7 v_r γ fun (z11 z12 : Int) (z13 : ByteArray) (z14 : Bool) => K z11 z12 z13 z14 else bif decide (v_e1 < Int.ofNat (List.length v_r)) then elemAt v_r v_e1 fun (z15 : List Dat) => bif List.length z15 == 3 then cellAt z15 0 fun (z16 : Dat) => Aev.asInt IntKind.i64 z16 fun (z17 : Int) => cellAt z15 1 fun (z18 : Dat) => Aev.asInt IntKind.i64 z18 fun (z19 : Int) => cellAt z15 2 fun (z20 : Dat) => asStr z20 fun (z21 : ByteArray) => K z17 z19 z21 true else none else x_value_Null γ fun (z22 z23 : Int) (z24 : ByteArray) => K z22 z23 z24 true
theorem e_calc_eval (p : Par) (x_calc_op : Ty_calc_op) (x_value_Null : Ty_value_Null) (v_e0 : Int) (v_e1 : Int) (v_e2 : Int) (v_e3 : Int) (v_e4 : ByteArray) (v_e5 : ByteArray) (v_e6 : ByteArray) (v_e7 : List (List Dat)) (v_r : List (List Dat)) (γ : Type) (K : List Ent × Sig → Option γ) : evFK (cfg p) (T_calc_eval x_calc_op x_value_Null) (L_calc_eval x_calc_op x_value_Null) 22 [AVal.agg [(Dat.int IntKind.i64 v_e0, Own.none), (Dat.int IntKind.i64 v_e1, Own.none), (Dat.int IntKind.i64 v_e2, Own.none), (Dat.int IntKind.i64 v_e3, Own.none), (Dat.str v_e4, Own.none), (Dat.str v_e5, Own.none), (Dat.str v_e6, Own.none), (Dat.sl v_e7, Own.none)], AVal.dat (Dat.sl v_r)] [] γ K = Sp.B_calc_eval x_calc_op x_value_Null v_e0 v_e1 v_e2 v_e3 v_e4 v_e5 v_e6 v_e7 v_r γ (fun r0 r1 r2 r3 => K ([(AVal.agg [(Dat.int IntKind.i64 r0, Own.none), (Dat.int IntKind.i64 r1, Own.none), (Dat.str r2, Own.none)], Own.none), (AVal.dat (Dat.bool r3), Own.none)], [])) := by kernel_rfl
def Sp.calc_op_L0 (R_calc_logic : Ty_calc_logic) (R_calc_op : Ty_calc_op) (R_calc_eval : Ty_calc_eval) : Nat → Ty_calc_op_L0
  | 0 => fun _ _ _ _ _ _ _ _ _ _ _ _ _ _ _ _ _ _ _ => none
  | n + 1 => Sp.B_calc_op_L0 (Sp.calc_op_L0 R_calc_logic R_calc_op R_calc_eval n) R_calc_eval
theorem E0_calc_op_L0 (p : Par) (R_calc_logic : Ty_calc_logic) (R_calc_op : Ty_calc_op) (R_calc_eval : Ty_calc_eval) (h_calc_logic : ∀ {F : Ent3}, EntOk (cfg p) 46 F → EntOk (cfg p) 46 (P_calc_logic R_calc_logic F)) (h_calc_op : ∀ {F : Ent3}, EntOk (cfg p) 37 F → EntOk (cfg p) 37 (P_calc_op R_calc_op F)) (h_calc_eval : ∀ {F : Ent3}, EntOk (cfg p) 22 F → EntOk (cfg p) 22 (P_calc_eval R_calc_eval F)) : ∀ n, EntOkL (cfg p) 37 0 (P_calc_op_L0 (Sp.calc_op_L0 R_calc_logic R_calc_op R_calc_eval n) noneL3) := entL_rounds (tab_call (tab_nil _) (h_calc_eval (ent_none _ _))) (by kernel_rfl) (fun c v γ K => by unfold P_calc_op_L0; split <;> rfl) fun n c v γ K q h => by
  unfold P_calc_op_L0 at h
  split at h
  · exact (e_calc_op_L0 p _ _ _ _ _ _ _ _ _ _ _ _ _ _ _ _ _ _ _ _ _).trans h
  · cases h
theorem E_calc_op_L0 (p : Par) (R_calc_logic : Ty_calc_logic) (R_calc_op : Ty_calc_op) (R_calc_eval : Ty_calc_eval) (h_calc_logic : ∀ {F : Ent3}, EntOk (cfg p) 46 F → EntOk (cfg p) 46 (P_calc_logic R_calc_logic F)) (h_calc_op : ∀ {F : Ent3}, EntOk (cfg p) 37 F → EntOk (cfg p) 37 (P_calc_op R_calc_op F)) (h_calc_eval : ∀ {F : Ent3}, EntOk (cfg p) 22 F → EntOk (cfg p) 22 (P_calc_eval R_calc_eval F)) (n : Nat) {F : Loop3} (hF : EntOkL (cfg p) 37 0 F) : EntOkL (cfg p) 37 0 (P_calc_op_L0 (Sp.calc_op_L0 R_calc_logic R_calc_op R_calc_eval n) F) := by
  intro c v γ K q h
  unfold P_calc_op_L0 at h
  split at h
  · exact E0_calc_op_L0 p R_calc_logic R_calc_op R_calc_eval h_calc_logic h_calc_op h_calc_eval n _ _ _ _ _ h
  · exact hF _ _ _ _ _ h
mutual
def Sp.calc_logic : Nat → Ty_calc_logic
  | 0 => fun _ _ _ _ _ _ _ _ _ _ _ => none
  | n + 1 => Sp.B_calc_logic (Sp.calc_eval n) Sp.value_Of Sp.value_Truth Sp.value_Or Sp.value_And
def Sp.calc_op : Nat → Ty_calc_op
  | 0 => fun _ _ _ _ _ _ _ _ _ _ _ => none
  | n + 1 => Sp.B_calc_op (Sp.calc_logic n) (Sp.calc_op_L0 (Sp.calc_logic n) (Sp.calc_op n) (Sp.calc_eval n) fuel) Sp.value_Truth Sp.value_Not Sp.value_Of Sp.value_Bool Sp.calc_compare Sp.calc_numbers
def Sp.calc_eval : Nat → Ty_calc_eval
  | 0 => fun _ _ _ _ _ _ _ _ _ _ _ => none
  | n + 1 => Sp.B_calc_eval (Sp.calc_op n) Sp.value_Null
end
theorem G37_ok (p : Par) (n : Nat) : (∀ {F : Ent3}, EntOk (cfg p) 46 F → EntOk (cfg p) 46 (P_calc_logic (Sp.calc_logic n) F)) ∧ (∀ {F : Ent3}, EntOk (cfg p) 37 F → EntOk (cfg p) 37 (P_calc_op (Sp.calc_op n) F)) ∧ (∀ {F : Ent3}, EntOk (cfg p) 22 F → EntOk (cfg p) 22 (P_calc_eval (Sp.calc_eval n) F)) := by
  induction n with
  | zero =>
    refine ⟨?_, ?_, ?_⟩
    · intro F hF a s γ K q h
      unfold P_calc_logic at h
      split at h
      · cases h
      · exact hF _ _ _ _ _ h
    · intro F hF a s γ K q h
      unfold P_calc_op at h
      split at h
      · cases h
      · exact hF _ _ _ _ _ h
    · intro F hF a s γ K q h
      unfold P_calc_eval at h
      split at h
      · cases h
      · exact hF _ _ _ _ _ h
  | succ n ih =>
    refine ⟨?_, ?_, ?_⟩
    · intro F hF a s γ K q h
      unfold P_calc_logic at h
      split at h
      · exact body_ok (tab_call (tab_call (tab_call (tab_call (tab_call (tab_nil _) (ih.2.2 (ent_none _ _))) (E_value_Of p (ent_none _ _))) (E_value_Truth p (ent_none _ _))) (E_value_Or p (ent_none _ _))) (E_value_And p (ent_none _ _))) rfl ((e_calc_logic p _ _ _ _ _ _ _ _ _ _ _ _ _ _ _ _).trans h)
      · exact hF _ _ _ _ _ h
    · intro F hF a s γ K q h
      unfold P_calc_op at h
      split at h
      · exact body_ok (tab_loop (tab_call (tab_call (tab_call (tab_call (tab_call (tab_call (tab_call (tab_nil _) (ih.1 (ent_none _ _))) (E_value_Truth p (ent_none _ _))) (E_value_Not p (ent_none _ _))) (E_value_Of p (ent_none _ _))) (E_value_Bool p (ent_none _ _))) (E_calc_compare p (ent_none _ _))) (E_calc_numbers p (ent_none _ _))) (E_calc_op_L0 p (Sp.calc_logic n) (Sp.calc_op n) (Sp.calc_eval n) ih.1 ih.2.1 ih.2.2 fuel (entL_none _ _ _))) rfl ((e_calc_op p _ _ _ _ _ _ _ _ _ _ _ _ _ _ _ _ _ _ _).trans h)
      · exact hF _ _ _ _ _ h
    · intro F hF a s γ K q h
      unfold P_calc_eval at h
      split at h
      · exact body_ok (tab_call (tab_call (tab_nil _) (ih.2.1 (ent_none _ _))) (E_value_Null p (ent_none _ _))) rfl ((e_calc_eval p _ _ _ _ _ _ _ _ _ _ _ _ _).trans h)
      · exact hF _ _ _ _ _ h
theorem E_calc_logic (p : Par) (n : Nat) {F : Ent3} (hF : EntOk (cfg p) 46 F) : EntOk (cfg p) 46 (P_calc_logic (Sp.calc_logic n) F) := (G37_ok p n).1 hF
theorem E_calc_op (p : Par) (n : Nat) {F : Ent3} (hF : EntOk (cfg p) 37 F) : EntOk (cfg p) 37 (P_calc_op (Sp.calc_op n) F) := (G37_ok p n).2.1 hF
theorem E_calc_eval (p : Par) (n : Nat) {F : Ent3} (hF : EntOk (cfg p) 22 F) : EntOk (cfg p) 22 (P_calc_eval (Sp.calc_eval n) F) := (G37_ok p n).2.2 hF
abbrev Ty_calc_Eval : Type 1 := Int → Int → Int → Int → ByteArray → ByteArray → ByteArray → List (List Dat) → List (List Dat) → (γ : Type) → (Int → Int → ByteArray → Int → Option γ) → Option γ
def P_calc_Eval (X : Ty_calc_Eval) (F : Ent3) : Ent3 := fun a s γ K => match a, s with
  | [AVal.agg [(Dat.int IntKind.i64 v_e0, Own.none), (Dat.int IntKind.i64 v_e1, Own.none), (Dat.int IntKind.i64 v_e2, Own.none), (Dat.int IntKind.i64 v_e3, Own.none), (Dat.str v_e4, Own.none), (Dat.str v_e5, Own.none), (Dat.str v_e6, Own.none), (Dat.sl v_e7, Own.none)], AVal.dat (Dat.sl v_r)], [] => X v_e0 v_e1 v_e2 v_e3 v_e4 v_e5 v_e6 v_e7 v_r γ (fun r0 r1 r2 r3 => K ([(AVal.agg [(Dat.int IntKind.i64 r0, Own.none), (Dat.int IntKind.i64 r1, Own.none), (Dat.str r2, Own.none)], Own.none), (AVal.dat (Dat.int IntKind.i64 r3), Own.none)], []))
  | a, s => F a s γ K
def T_calc_Eval (x_calc_may : Ty_calc_may) (x_calc_eval : Ty_calc_eval) : CallK := (addK (addK noneK 20 (P_calc_may x_calc_may none3)) 22 (P_calc_eval x_calc_eval none3))
def L_calc_Eval (x_calc_may : Ty_calc_may) (x_calc_eval : Ty_calc_eval) : LoopK := noneL
def Sp.B_calc_Eval (x_calc_may : Ty_calc_may) (x_calc_eval : Ty_calc_eval) (v_e0 : Int) (v_e1 : Int) (v_e2 : Int) (v_e3 : Int) (v_e4 : ByteArray) (v_e5 : ByteArray) (v_e6 : ByteArray) (v_e7 : List (List Dat)) (v_r : List (List Dat)) (γ : Type) (K : Int → Int → ByteArray → Int → Option γ) : Option γ := x_calc_may v_e0 v_e1 v_e2 v_e3 v_e4 v_e5 v_e6 v_e7 γ fun (z11 : Int) => bif !decide (z11 = 0) then K 0 0 (bs []) z11 else x_calc_eval v_e0 v_e1 v_e2 v_e3 v_e4 v_e5 v_e6 v_e7 v_r γ fun (z12 z13 : Int) (z14 : ByteArray) (z15 : Bool) => bif !z15 then K 0 0 (bs []) 160 else K z12 z13 z14 0
theorem e_calc_Eval (p : Par) (x_calc_may : Ty_calc_may) (x_calc_eval : Ty_calc_eval) (v_e0 : Int) (v_e1 : Int) (v_e2 : Int) (v_e3 : Int) (v_e4 : ByteArray) (v_e5 : ByteArray) (v_e6 : ByteArray) (v_e7 : List (List Dat)) (v_r : List (List Dat)) (γ : Type) (K : List Ent × Sig → Option γ) : evFK (cfg p) (T_calc_Eval x_calc_may x_calc_eval) (L_calc_Eval x_calc_may x_calc_eval) 12 [AVal.agg [(Dat.int IntKind.i64 v_e0, Own.none), (Dat.int IntKind.i64 v_e1, Own.none), (Dat.int IntKind.i64 v_e2, Own.none), (Dat.int IntKind.i64 v_e3, Own.none), (Dat.str v_e4, Own.none), (Dat.str v_e5, Own.none), (Dat.str v_e6, Own.none), (Dat.sl v_e7, Own.none)], AVal.dat (Dat.sl v_r)] [] γ K = Sp.B_calc_Eval x_calc_may x_calc_eval v_e0 v_e1 v_e2 v_e3 v_e4 v_e5 v_e6 v_e7 v_r γ (fun r0 r1 r2 r3 => K ([(AVal.agg [(Dat.int IntKind.i64 r0, Own.none), (Dat.int IntKind.i64 r1, Own.none), (Dat.str r2, Own.none)], Own.none), (AVal.dat (Dat.int IntKind.i64 r3), Own.none)], [])) := by kernel_rfl
def Sp.calc_Eval : Ty_calc_Eval := Sp.B_calc_Eval Sp.calc_may (Sp.calc_eval fuel)
theorem E_calc_Eval (p : Par) {F : Ent3} (hF : EntOk (cfg p) 12 F) : EntOk (cfg p) 12 (P_calc_Eval Sp.calc_Eval F) := by
  intro a s γ K q h
  unfold P_calc_Eval at h
  split at h
  · exact body_ok (tab_call (tab_call (tab_nil _) (E_calc_may p (ent_none _ _))) (E_calc_eval p fuel (ent_none _ _))) rfl ((e_calc_Eval p _ _ _ _ _ _ _ _ _ _ _ _ _).trans h)
  · exact hF _ _ _ _ _ h
end
end Go.Proofs.YtebfhpjnbmdcoaaGreatDoor

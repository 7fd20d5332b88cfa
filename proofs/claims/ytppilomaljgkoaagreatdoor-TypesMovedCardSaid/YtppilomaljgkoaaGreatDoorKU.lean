/- What the functions of this program compute, printed by a program. -/
import Derived.Test.YtppilomaljgkoaaGreatDoorKJ
import Derived.KernelRfl
set_option linter.unusedVariables false
namespace Go.Proofs.YtppilomaljgkoaaGreatDoor.Y
open Go Go.Aev Go.RowKit
noncomputable section
abbrev Ty_expr_Columns : Type 1 := Int → Int → Int → Int → ByteArray → ByteArray → ByteArray → List (List Dat) → (γ : Type) → (List (List Dat) → Option γ) → Option γ
def P_expr_Columns (X : Ty_expr_Columns) (F : Ent3) : Ent3 := fun a s γ K => match a, s with
  | [AVal.agg [(Dat.int IntKind.i64 v_e0, Own.none), (Dat.int IntKind.i64 v_e1, Own.none), (Dat.int IntKind.i64 v_e2, Own.none), (Dat.int IntKind.i64 v_e3, Own.none), (Dat.str v_e4, Own.none), (Dat.str v_e5, Own.none), (Dat.str v_e6, Own.none), (Dat.sl v_e7, Own.none)]], [] => X v_e0 v_e1 v_e2 v_e3 v_e4 v_e5 v_e6 v_e7 γ (fun r0 => K ([(AVal.dat (Dat.sl r0), Own.none)], []))
  | a, s => F a s γ K
def T_expr_Columns (x_expr_kinds : Ty_expr_kinds) : CallK := (addK noneK 51 (P_expr_kinds x_expr_kinds none3))
def L_expr_Columns (x_expr_kinds : Ty_expr_kinds) : LoopK := noneL
def Sp.B_expr_Columns (x_expr_kinds : Ty_expr_kinds) (v_e0 : Int) (v_e1 : Int) (v_e2 : Int) (v_e3 : Int) (v_e4 : ByteArray) (v_e5 : ByteArray) (v_e6 : ByteArray) (v_e7 : List (List Dat)) (γ : Type) (K : List (List Dat) → Option γ) : Option γ := x_expr_kinds v_e0 v_e1 v_e2 v_e3 v_e4 v_e5 v_e6 v_e7 2 γ fun (z10 : List (List Dat)) => K z10
theorem e_expr_Columns (p : Par) (x_expr_kinds : Ty_expr_kinds) (v_e0 : Int) (v_e1 : Int) (v_e2 : Int) (v_e3 : Int) (v_e4 : ByteArray) (v_e5 : ByteArray) (v_e6 : ByteArray) (v_e7 : List (List Dat)) (γ : Type) (K : List Ent × Sig → Option γ) : evFK (cfgY p) (T_expr_Columns x_expr_kinds) (L_expr_Columns x_expr_kinds) 41 [AVal.agg [(Dat.int IntKind.i64 v_e0, Own.none), (Dat.int IntKind.i64 v_e1, Own.none), (Dat.int IntKind.i64 v_e2, Own.none), (Dat.int IntKind.i64 v_e3, Own.none), (Dat.str v_e4, Own.none), (Dat.str v_e5, Own.none), (Dat.str v_e6, Own.none), (Dat.sl v_e7, Own.none)]] [] γ K = Sp.B_expr_Columns x_expr_kinds v_e0 v_e1 v_e2 v_e3 v_e4 v_e5 v_e6 v_e7 γ (fun r0 => K ([(AVal.dat (Dat.sl r0), Own.none)], [])) := by kernel_rfl
def Sp.expr_Columns : Ty_expr_Columns := Sp.B_expr_Columns Sp.expr_kinds
theorem E_expr_Columns (p : Par) {F : Ent3} (hF : EntOk (cfgY p) 41 F) : EntOk (cfgY p) 41 (P_expr_Columns Sp.expr_Columns F) := by
  intro a s γ K q h
  unfold P_expr_Columns at h
  split at h
  · exact body_ok (tab_call (tab_nil _) (kinds_ent p rfl (ent_none _ _))) rfl ((e_expr_Columns p _ _ _ _ _ _ _ _ _ _ _).trans h)
  · exact hF _ _ _ _ _ h
abbrev Ty_types_Uses_L0 : Type 1 := List (List Dat) → Int → List (List Dat) → Int → (γ : Type) → (Ex → List (List Dat) → Int → Option γ) → Option γ
def P_types_Uses_L0 (X : Ty_types_Uses_L0) (F : Loop3) : Loop3 := fun a s γ K => match a, s with
  | [AVal.dat (Dat.sl v_), AVal.dat (Dat.int IntKind.i64 v__1)], ([AVal.dat (Dat.sl v_out), AVal.dat (Dat.int IntKind.i64 v__2)], []) => X v_ v__1 v_out v__2 γ (fun e x0 x1 => K (e, ([AVal.dat (Dat.sl x0), AVal.dat (Dat.int IntKind.i64 x1)], [])))
  | a, s => F a s γ K
def T_types_Uses_L0  : CallK := noneK
def L_types_Uses_L0  : LoopK := noneL
def Sp.B_types_Uses_L0 (x_types_Uses_L0 : Ty_types_Uses_L0)  (v_ : List (List Dat)) (v__1 : Int) (v_out : List (List Dat)) (v__2 : Int) (γ : Type) (K : Ex → List (List Dat) → Int → Option γ) : Option γ := bif sized v_out 1 then bif decide (v__2 < v__1) then elemAt v_ v__2 fun (z6 : List Dat) => bif List.length z6 == 8 then cellAt z6 0 fun (z7 : Dat) => Aev.asInt IntKind.i64 z7 fun (z8 : Int) => cellAt z6 1 fun (z9 : Dat) => Aev.asInt IntKind.i64 z9 fun (z10 : Int) => cellAt z6 2 fun (z11 : Dat) => Aev.asInt IntKind.i64 z11 fun (z12 : Int) => cellAt z6 3 fun (z13 : Dat) => Aev.asInt IntKind.i64 z13 fun (z14 : Int) => cellAt z6 4 fun (z15 : Dat) => asStr z15 fun (z16 : ByteArray) => cellAt z6 5 fun (z17 : Dat) => asStr z17 fun (z18 : ByteArray) => cellAt z6 6 fun (z19 : Dat) => asStr z19 fun (z20 : ByteArray) => cellAt z6 7 fun (z21 : Dat) => asSl z21 fun (z22 : List (List Dat)) => bif sized v_out 1 && true && true && decide ((List.length v_out + 1) * 9 ≤ 70368744177664) && true then x_types_Uses_L0 v_ v__1 (v_out ++ [[Dat.int IntKind.i64 z10]]) (IntKind.wrap IntKind.i64 (v__2 + 1)) γ K else none else none else K (Ex.exit 0) v_out v__2 else none
theorem e_types_Uses_L0 (p : Par) (x_types_Uses_L0 : Ty_types_Uses_L0)  (v_ : List (List Dat)) (v__1 : Int) (v_out : List (List Dat)) (v__2 : Int) (γ : Type) (K : Ex × Vars → Option γ) : roundK (cfgY p) (T_types_Uses_L0 ) (L_types_Uses_L0 ) 21 0 [AVal.dat (Dat.sl v_), AVal.dat (Dat.int IntKind.i64 v__1)] ([AVal.dat (Dat.sl v_out), AVal.dat (Dat.int IntKind.i64 v__2)], []) γ (contL (fun v => P_types_Uses_L0 x_types_Uses_L0 noneL3 [AVal.dat (Dat.sl v_), AVal.dat (Dat.int IntKind.i64 v__1)] v γ K) K) = Sp.B_types_Uses_L0 x_types_Uses_L0  v_ v__1 v_out v__2 γ (fun e x0 x1 => K (e, ([AVal.dat (Dat.sl x0), AVal.dat (Dat.int IntKind.i64 x1)], []))) := by kernel_rfl
def Sp.types_Uses_L0 : Nat → Ty_types_Uses_L0
  | 0 => fun _ _ _ _ _ _ => none
  | n + 1 => Sp.B_types_Uses_L0 (Sp.types_Uses_L0 n) 
theorem E0_types_Uses_L0 (p : Par)   : ∀ n, EntOkL (cfgY p) 21 0 (P_types_Uses_L0 (Sp.types_Uses_L0  n) noneL3) := entL_rounds (tab_nil _) (by kernel_rfl) (fun c v γ K => by unfold P_types_Uses_L0; split <;> rfl) fun n c v γ K q h => by
  unfold P_types_Uses_L0 at h
  split at h
  · exact (e_types_Uses_L0 p _  _ _ _ _ _ _).trans h
  · cases h
theorem E_types_Uses_L0 (p : Par)   (n : Nat) {F : Loop3} (hF : EntOkL (cfgY p) 21 0 F) : EntOkL (cfgY p) 21 0 (P_types_Uses_L0 (Sp.types_Uses_L0  n) F) := by
  intro c v γ K q h
  unfold P_types_Uses_L0 at h
  split at h
  · exact E0_types_Uses_L0 p   n _ _ _ _ _ h
  · exact hF _ _ _ _ _ h
abbrev Ty_types_Uses : Type 1 := Int → Int → Int → Int → ByteArray → ByteArray → ByteArray → List (List Dat) → (γ : Type) → (List (List Dat) → Option γ) → Option γ
def P_types_Uses (X : Ty_types_Uses) (F : Ent3) : Ent3 := fun a s γ K => match a, s with
  | [AVal.agg [(Dat.int IntKind.i64 v_e0, Own.none), (Dat.int IntKind.i64 v_e1, Own.none), (Dat.int IntKind.i64 v_e2, Own.none), (Dat.int IntKind.i64 v_e3, Own.none), (Dat.str v_e4, Own.none), (Dat.str v_e5, Own.none), (Dat.str v_e6, Own.none), (Dat.sl v_e7, Own.none)]], [] => X v_e0 v_e1 v_e2 v_e3 v_e4 v_e5 v_e6 v_e7 γ (fun r0 => K ([(AVal.dat (Dat.sl r0), Own.none)], []))
  | a, s => F a s γ K
def T_types_Uses (x_expr_Columns : Ty_expr_Columns) (x_types_Uses_L0 : Ty_types_Uses_L0) : CallK := (addK noneK 41 (P_expr_Columns x_expr_Columns none3))
def L_types_Uses (x_expr_Columns : Ty_expr_Columns) (x_types_Uses_L0 : Ty_types_Uses_L0) : LoopK := (addL noneL 21 0 (P_types_Uses_L0 x_types_Uses_L0 noneL3))
def Sp.B_types_Uses (x_expr_Columns : Ty_expr_Columns) (x_types_Uses_L0 : Ty_types_Uses_L0) (v_e0 : Int) (v_e1 : Int) (v_e2 : Int) (v_e3 : Int) (v_e4 : ByteArray) (v_e5 : ByteArray) (v_e6 : ByteArray) (v_e7 : List (List Dat)) (γ : Type) (K : List (List Dat) → Option γ) : Option γ := x_expr_Columns v_e0 v_e1 v_e2 v_e3 v_e4 v_e5 v_e6 v_e7 γ fun (z10 : List (List Dat)) => x_types_Uses_L0 z10 (Int.ofNat (List.length z10)) [] 0 γ fun (z11 : Ex) (z12 : List (List Dat)) (z13 : Int) => bif sized z12 1 then bif Ex.isExit z11 0 then K z12 else bif Ex.isRet z11 then none else none else none
def Sp.types_Uses : Ty_types_Uses := Sp.B_types_Uses Sp.expr_Columns (Sp.types_Uses_L0 fuel)
end
end Go.Proofs.YtppilomaljgkoaaGreatDoor.Y

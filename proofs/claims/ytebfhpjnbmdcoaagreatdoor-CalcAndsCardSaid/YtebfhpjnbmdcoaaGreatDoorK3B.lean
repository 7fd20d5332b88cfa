/- What the functions of this program compute, printed by a program. -/
import Derived.Test.YtebfhpjnbmdcoaaGreatDoorK3
import Derived.KernelRfl
set_option linter.unusedVariables false
namespace Go.Proofs.YtebfhpjnbmdcoaaGreatDoor
open Go Go.Aev Go.RowKit
noncomputable section
abbrev Ty_expr_split : Type 1 := Int → Int → Int → Int → ByteArray → ByteArray → ByteArray → List (List Dat) → (γ : Type) → (List (List Dat) → Option γ) → Option γ
def P_expr_split (X : Ty_expr_split) (F : Ent3) : Ent3 := fun a s γ K => match a, s with
  | [AVal.agg [(Dat.int IntKind.i64 v_e0, Own.none), (Dat.int IntKind.i64 v_e1, Own.none), (Dat.int IntKind.i64 v_e2, Own.none), (Dat.int IntKind.i64 v_e3, Own.none), (Dat.str v_e4, Own.none), (Dat.str v_e5, Own.none), (Dat.str v_e6, Own.none), (Dat.sl v_e7, Own.none)]], [] => X v_e0 v_e1 v_e2 v_e3 v_e4 v_e5 v_e6 v_e7 γ (fun r0 => K ([(AVal.dat (Dat.sl r0), Own.id 0 8)], []))
  | a, s => F a s γ K
def T_expr_split (x_expr_split : Ty_expr_split) : CallK := (addK noneK 36 (P_expr_split x_expr_split none3))
def L_expr_split (x_expr_split : Ty_expr_split) : LoopK := noneL
def Sp.B_expr_split (x_expr_split : Ty_expr_split) (v_e0 : Int) (v_e1 : Int) (v_e2 : Int) (v_e3 : Int) (v_e4 : ByteArray) (v_e5 : ByteArray) (v_e6 : ByteArray) (v_e7 : List (List Dat)) (γ : Type) (K : List (List Dat) → Option γ) : Option γ := bif !decide (v_e0 = 3) then K [[Dat.int IntKind.i64 v_e0, Dat.int IntKind.i64 v_e1, Dat.int IntKind.i64 v_e2, Dat.int IntKind.i64 v_e3, Dat.str v_e4, Dat.str v_e5, Dat.str v_e6, Dat.sl v_e7]] else bif !decide (v_e1 = 2) then K [[Dat.int IntKind.i64 v_e0, Dat.int IntKind.i64 v_e1, Dat.int IntKind.i64 v_e2, Dat.int IntKind.i64 v_e3, Dat.str v_e4, Dat.str v_e5, Dat.str v_e6, Dat.sl v_e7]] else elemAt v_e7 0 fun (z10 : List Dat) => bif List.length z10 == 8 then cellAt z10 0 fun (z11 : Dat) => Aev.asInt IntKind.i64 z11 fun (z12 : Int) => cellAt z10 1 fun (z13 : Dat) => Aev.asInt IntKind.i64 z13 fun (z14 : Int) => cellAt z10 2 fun (z15 : Dat) => Aev.asInt IntKind.i64 z15 fun (z16 : Int) => cellAt z10 3 fun (z17 : Dat) => Aev.asInt IntKind.i64 z17 fun (z18 : Int) => cellAt z10 4 fun (z19 : Dat) => asStr z19 fun (z20 : ByteArray) => cellAt z10 5 fun (z21 : Dat) => asStr z21 fun (z22 : ByteArray) => cellAt z10 6 fun (z23 : Dat) => asStr z23 fun (z24 : ByteArray) => cellAt z10 7 fun (z25 : Dat) => asSl z25 fun (z26 : List (List Dat)) => x_expr_split z12 z14 z16 z18 z20 z22 z24 z26 γ fun (z27 : List (List Dat)) => elemAt v_e7 1 fun (z28 : List Dat) => bif List.length z28 == 8 then cellAt z28 0 fun (z29 : Dat) => Aev.asInt IntKind.i64 z29 fun (z30 : Int) => cellAt z28 1 fun (z31 : Dat) => Aev.asInt IntKind.i64 z31 fun (z32 : Int) => cellAt z28 2 fun (z33 : Dat) => Aev.asInt IntKind.i64 z33 fun (z34 : Int) => cellAt z28 3 fun (z35 : Dat) => Aev.asInt IntKind.i64 z35 fun (z36 : Int) => cellAt z28 4 fun (z37 : Dat) => asStr z37 fun (z38 : ByteArray) => cellAt z28 5 fun (z39 : Dat) => asStr z39 fun (z40 : ByteArray) => cellAt z28 6 fun (z41 : Dat) => asStr z41 fun (z42 : ByteArray) => cellAt z28 7 fun (z43 : Dat) => asSl z43 fun (z44 : List (List Dat)) => x_expr_split z30 z32 z34 z36 z38 z40 z42 z44 γ fun (z45 : List (List Dat)) => bif sized z27 8 && sized z45 8 && true && decide ((List.length z27 + List.length z45) * 105 ≤ 70368744177664) && true then K (z27 ++ z45) else none else none else none
theorem e_expr_split (p : Par) (x_expr_split : Ty_expr_split) (v_e0 : Int) (v_e1 : Int) (v_e2 : Int) (v_e3 : Int) (v_e4 : ByteArray) (v_e5 : ByteArray) (v_e6 : ByteArray) (v_e7 : List (List Dat)) (γ : Type) (K : List Ent × Sig → Option γ) : evFK (cfg p) (T_expr_split x_expr_split) (L_expr_split x_expr_split) 36 [AVal.agg [(Dat.int IntKind.i64 v_e0, Own.none), (Dat.int IntKind.i64 v_e1, Own.none), (Dat.int IntKind.i64 v_e2, Own.none), (Dat.int IntKind.i64 v_e3, Own.none), (Dat.str v_e4, Own.none), (Dat.str v_e5, Own.none), (Dat.str v_e6, Own.none), (Dat.sl v_e7, Own.none)]] [] γ K = Sp.B_expr_split x_expr_split v_e0 v_e1 v_e2 v_e3 v_e4 v_e5 v_e6 v_e7 γ (fun r0 => K ([(AVal.dat (Dat.sl r0), Own.id 0 8)], [])) := by kernel_rfl
def Sp.expr_split : Nat → Ty_expr_split
  | 0 => fun _ _ _ _ _ _ _ _ _ _ => none
  | n + 1 => Sp.B_expr_split (Sp.expr_split n)
theorem G68_ok (p : Par) (n : Nat) : (∀ {F : Ent3}, EntOk (cfg p) 36 F → EntOk (cfg p) 36 (P_expr_split (Sp.expr_split n) F)) := by
  induction n with
  | zero =>
    refine ?_
    · intro F hF a s γ K q h
      unfold P_expr_split at h
      split at h
      · cases h
      · exact hF _ _ _ _ _ h
  | succ n ih =>
    refine ?_
    · intro F hF a s γ K q h
      unfold P_expr_split at h
      split at h
      · exact body_ok (tab_call (tab_nil _) (ih (ent_none _ _))) rfl ((e_expr_split p _ _ _ _ _ _ _ _ _ _ _).trans h)
      · exact hF _ _ _ _ _ h
theorem E_expr_split (p : Par) (n : Nat) {F : Ent3} (hF : EntOk (cfg p) 36 F) : EntOk (cfg p) 36 (P_expr_split (Sp.expr_split n) F) := (G68_ok p n) hF
abbrev Ty_expr_Parts : Type 1 := Int → Int → Int → Int → ByteArray → ByteArray → ByteArray → List (List Dat) → (γ : Type) → (List (List Dat) → Option γ) → Option γ
def P_expr_Parts (X : Ty_expr_Parts) (F : Ent3) : Ent3 := fun a s γ K => match a, s with
  | [AVal.agg [(Dat.int IntKind.i64 v_e0, Own.none), (Dat.int IntKind.i64 v_e1, Own.none), (Dat.int IntKind.i64 v_e2, Own.none), (Dat.int IntKind.i64 v_e3, Own.none), (Dat.str v_e4, Own.none), (Dat.str v_e5, Own.none), (Dat.str v_e6, Own.none), (Dat.sl v_e7, Own.none)]], [] => X v_e0 v_e1 v_e2 v_e3 v_e4 v_e5 v_e6 v_e7 γ (fun r0 => K ([(AVal.dat (Dat.sl r0), Own.none)], []))
  | a, s => F a s γ K
def T_expr_Parts (x_expr_Check : Ty_expr_Check) (x_expr_split : Ty_expr_split) : CallK := (addK (addK noneK 34 (P_expr_Check x_expr_Check none3)) 36 (P_expr_split x_expr_split none3))
def L_expr_Parts (x_expr_Check : Ty_expr_Check) (x_expr_split : Ty_expr_split) : LoopK := noneL
def Sp.B_expr_Parts (x_expr_Check : Ty_expr_Check) (x_expr_split : Ty_expr_split) (v_e0 : Int) (v_e1 : Int) (v_e2 : Int) (v_e3 : Int) (v_e4 : ByteArray) (v_e5 : ByteArray) (v_e6 : ByteArray) (v_e7 : List (List Dat)) (γ : Type) (K : List (List Dat) → Option γ) : Option γ := x_expr_Check v_e0 v_e1 v_e2 v_e3 v_e4 v_e5 v_e6 v_e7 γ fun (z10 : Int) => bif !decide (z10 = 0) then K [] else x_expr_split v_e0 v_e1 v_e2 v_e3 v_e4 v_e5 v_e6 v_e7 γ fun (z11 : List (List Dat)) => K z11
theorem e_expr_Parts (p : Par) (x_expr_Check : Ty_expr_Check) (x_expr_split : Ty_expr_split) (v_e0 : Int) (v_e1 : Int) (v_e2 : Int) (v_e3 : Int) (v_e4 : ByteArray) (v_e5 : ByteArray) (v_e6 : ByteArray) (v_e7 : List (List Dat)) (γ : Type) (K : List Ent × Sig → Option γ) : evFK (cfg p) (T_expr_Parts x_expr_Check x_expr_split) (L_expr_Parts x_expr_Check x_expr_split) 21 [AVal.agg [(Dat.int IntKind.i64 v_e0, Own.none), (Dat.int IntKind.i64 v_e1, Own.none), (Dat.int IntKind.i64 v_e2, Own.none), (Dat.int IntKind.i64 v_e3, Own.none), (Dat.str v_e4, Own.none), (Dat.str v_e5, Own.none), (Dat.str v_e6, Own.none), (Dat.sl v_e7, Own.none)]] [] γ K = Sp.B_expr_Parts x_expr_Check x_expr_split v_e0 v_e1 v_e2 v_e3 v_e4 v_e5 v_e6 v_e7 γ (fun r0 => K ([(AVal.dat (Dat.sl r0), Own.none)], [])) := by kernel_rfl
def Sp.expr_Parts : Ty_expr_Parts := Sp.B_expr_Parts Sp.expr_Check (Sp.expr_split fuel)
theorem E_expr_Parts (p : Par) {F : Ent3} (hF : EntOk (cfg p) 21 F) : EntOk (cfg p) 21 (P_expr_Parts Sp.expr_Parts F) := by
  intro a s γ K q h
  unfold P_expr_Parts at h
  split at h
  · exact body_ok (tab_call (tab_call (tab_nil _) (E_expr_Check p (ent_none _ _))) (E_expr_split p fuel (ent_none _ _))) rfl ((e_expr_Parts p _ _ _ _ _ _ _ _ _ _ _ _).trans h)
  · exact hF _ _ _ _ _ h
abbrev Ty_calc_Errs : Type 1 := Int → Int → Int → Int → ByteArray → ByteArray → ByteArray → List (List Dat) → (γ : Type) → (Bool → Option γ) → Option γ
def P_calc_Errs (X : Ty_calc_Errs) (F : Ent3) : Ent3 := fun a s γ K => match a, s with
  | [AVal.agg [(Dat.int IntKind.i64 v_e0, Own.none), (Dat.int IntKind.i64 v_e1, Own.none), (Dat.int IntKind.i64 v_e2, Own.none), (Dat.int IntKind.i64 v_e3, Own.none), (Dat.str v_e4, Own.none), (Dat.str v_e5, Own.none), (Dat.str v_e6, Own.none), (Dat.sl v_e7, Own.none)]], [] => X v_e0 v_e1 v_e2 v_e3 v_e4 v_e5 v_e6 v_e7 γ (fun r0 => K ([(AVal.dat (Dat.bool r0), Own.none)], []))
  | a, s => F a s γ K
def T_calc_Errs (x_expr_Safe : Ty_expr_Safe) : CallK := (addK noneK 33 (P_expr_Safe x_expr_Safe none3))
def L_calc_Errs (x_expr_Safe : Ty_expr_Safe) : LoopK := noneL
def Sp.B_calc_Errs (x_expr_Safe : Ty_expr_Safe) (v_e0 : Int) (v_e1 : Int) (v_e2 : Int) (v_e3 : Int) (v_e4 : ByteArray) (v_e5 : ByteArray) (v_e6 : ByteArray) (v_e7 : List (List Dat)) (γ : Type) (K : Bool → Option γ) : Option γ := x_expr_Safe v_e0 v_e1 v_e2 v_e3 v_e4 v_e5 v_e6 v_e7 γ fun (z10 : Bool) => K !z10
theorem e_calc_Errs (p : Par) (x_expr_Safe : Ty_expr_Safe) (v_e0 : Int) (v_e1 : Int) (v_e2 : Int) (v_e3 : Int) (v_e4 : ByteArray) (v_e5 : ByteArray) (v_e6 : ByteArray) (v_e7 : List (List Dat)) (γ : Type) (K : List Ent × Sig → Option γ) : evFK (cfg p) (T_calc_Errs x_expr_Safe) (L_calc_Errs x_expr_Safe) 18 [AVal.agg [(Dat.int IntKind.i64 v_e0, Own.none), (Dat.int IntKind.i64 v_e1, Own.none), (Dat.int IntKind.i64 v_e2, Own.none), (Dat.int IntKind.i64 v_e3, Own.none), (Dat.str v_e4, Own.none), (Dat.str v_e5, Own.none), (Dat.str v_e6, Own.none), (Dat.sl v_e7, Own.none)]] [] γ K = Sp.B_calc_Errs x_expr_Safe v_e0 v_e1 v_e2 v_e3 v_e4 v_e5 v_e6 v_e7 γ (fun r0 => K ([(AVal.dat (Dat.bool r0), Own.none)], [])) := by kernel_rfl
def Sp.calc_Errs : Ty_calc_Errs := Sp.B_calc_Errs Sp.expr_Safe
theorem E_calc_Errs (p : Par) {F : Ent3} (hF : EntOk (cfg p) 18 F) : EntOk (cfg p) 18 (P_calc_Errs Sp.calc_Errs F) := by
  intro a s γ K q h
  unfold P_calc_Errs at h
  split at h
  · exact body_ok (tab_call (tab_nil _) (E_expr_Safe p (ent_none _ _))) rfl ((e_calc_Errs p _ _ _ _ _ _ _ _ _ _ _).trans h)
  · exact hF _ _ _ _ _ h
abbrev Ty_calc_Holds_L0 : Type 1 := List (List Dat) → Bool → Int → List (List Dat) → Int → List (List Dat) → List (List Dat) → Int → (γ : Type) → (Ex → List (List Dat) → List (List Dat) → Int → Option γ) → Option γ
def P_calc_Holds_L0 (X : Ty_calc_Holds_L0) (F : Loop3) : Loop3 := fun a s γ K => match a, s with
  | [AVal.dat (Dat.sl v_r), AVal.dat (Dat.bool v_), AVal.dat (Dat.int IntKind.i64 v__1), AVal.dat (Dat.sl v__2), AVal.dat (Dat.int IntKind.i64 v__3)], ([AVal.dat (Dat.sl v_safe), AVal.dat (Dat.sl v_other), AVal.dat (Dat.int IntKind.i64 v__4)], []) => X v_r v_ v__1 v__2 v__3 v_safe v_other v__4 γ (fun e x0 x1 x2 => K (e, ([AVal.dat (Dat.sl x0), AVal.dat (Dat.sl x1), AVal.dat (Dat.int IntKind.i64 x2)], [])))
  | a, s => F a s γ K
def T_calc_Holds_L0 (x_calc_Errs : Ty_calc_Errs) : CallK := (addK noneK 18 (P_calc_Errs x_calc_Errs none3))
def L_calc_Holds_L0 (x_calc_Errs : Ty_calc_Errs) : LoopK := noneL
def Sp.B_calc_Holds_L0 (x_calc_Holds_L0 : Ty_calc_Holds_L0) (x_calc_Errs : Ty_calc_Errs) (v_r : List (List Dat)) (v_ : Bool) (v__1 : Int) (v__2 : List (List Dat)) (v__3 : Int) (v_safe : List (List Dat)) (v_other : List (List Dat)) (v__4 : Int) (γ : Type) (K : Ex → List (List Dat) → List (List Dat) → Int → Option γ) : Option γ := bif sized v_safe 8 then bif sized v_other 8 then bif decide (v__4 < v__3) then elemAt v__2 v__4 fun (z10 : List Dat) => bif List.length z10 == 8 then cellAt z10 0 fun (z11 : Dat) => Aev.asInt IntKind.i64 z11 fun (z12 : Int) => cellAt z10 1 fun (z13 : Dat) => Aev.asInt IntKind.i64 z13 fun (z14 : Int) => cellAt z10 2 fun (z15 : Dat) => Aev.asInt IntKind.i64 z15 fun (z16 : Int) => cellAt z10 3 fun (z17 : Dat) => Aev.asInt IntKind.i64 z17 fun (z18 : Int) => cellAt z10 4 fun (z19 : Dat) => asStr z19 fun (z20 : ByteArray) => cellAt z10 5 fun (z21 : Dat) => asStr z21 fun (z22 : ByteArray) => cellAt z10 6 fun (z23 : Dat) => asStr z23 fun (z24 : ByteArray) => cellAt z10 7 fun (z25 : Dat) => asSl z25 fun (z26 : List (List Dat)) => x_calc_Errs z12 z14 z16 z18 z20 z22 z24 z26 γ fun (z27 : Bool) => bif z27 then bif sized v_other 8 && true && true && decide ((List.length v_other + 1) * 105 ≤ 70368744177664) && true then x_calc_Holds_L0 v_r v_ v__1 v__2 v__3 v_safe (v_other ++ [[Dat.int IntKind.i64 z12, Dat.int IntKind.i64 z14, Dat.int IntKind.i64 z16, Dat.int IntKind.i64 z18, Dat.str z20, Dat.str z22, Dat.str z24, Dat.sl z26]]) (IntKind.wrap IntKind.i64 (v__4 + 1)) γ K else none else bif sized v_safe 8 && true && true && decide ((List.length v_safe + 1) * 105 ≤ 70368744177664) && true then x_calc_Holds_L0 v_r v_ v__1 v__2 v__3 (v_safe ++ [[Dat.int IntKind.i64 z12, Dat.int IntKind.i64 z14, Dat.int IntKind.i64 z16, Dat.int IntKind.i64 z18, Dat.str z20, Dat.str z22, Dat.str z24, Dat.sl z26]]) v_other (IntKind.wrap IntKind.i64 (v__4 + 1)) γ K else none else none else K (Ex.exit 0) v_safe v_other v__4 else none else none
theorem e_calc_Holds_L0 (p : Par) (x_calc_Holds_L0 : Ty_calc_Holds_L0) (x_calc_Errs : Ty_calc_Errs) (v_r : List (List Dat)) (v_ : Bool) (v__1 : Int) (v__2 : List (List Dat)) (v__3 : Int) (v_safe : List (List Dat)) (v_other : List (List Dat)) (v__4 : Int) (γ : Type) (K : Ex × Vars → Option γ) : roundK (cfg p) (T_calc_Holds_L0 x_calc_Errs) (L_calc_Holds_L0 x_calc_Errs) 7 0 [AVal.dat (Dat.sl v_r), AVal.dat (Dat.bool v_), AVal.dat (Dat.int IntKind.i64 v__1), AVal.dat (Dat.sl v__2), AVal.dat (Dat.int IntKind.i64 v__3)] ([AVal.dat (Dat.sl v_safe), AVal.dat (Dat.sl v_other), AVal.dat (Dat.int IntKind.i64 v__4)], []) γ (contL (fun v => P_calc_Holds_L0 x_calc_Holds_L0 noneL3 [AVal.dat (Dat.sl v_r), AVal.dat (Dat.bool v_), AVal.dat (Dat.int IntKind.i64 v__1), AVal.dat (Dat.sl v__2), AVal.dat (Dat.int IntKind.i64 v__3)] v γ K) K) = Sp.B_calc_Holds_L0 x_calc_Holds_L0 x_calc_Errs v_r v_ v__1 v__2 v__3 v_safe v_other v__4 γ (fun e x0 x1 x2 => K (e, ([AVal.dat (Dat.sl x0), AVal.dat (Dat.sl x1), AVal.dat (Dat.int IntKind.i64 x2)], []))) := by kernel_rfl
def Sp.calc_Holds_L0 : Nat → Ty_calc_Holds_L0
  | 0 => fun _ _ _ _ _ _ _ _ _ _ => none
  | n + 1 => Sp.B_calc_Holds_L0 (Sp.calc_Holds_L0 n) Sp.calc_Errs
theorem E0_calc_Holds_L0 (p : Par)   : ∀ n, EntOkL (cfg p) 7 0 (P_calc_Holds_L0 (Sp.calc_Holds_L0  n) noneL3) := entL_rounds (tab_call (tab_nil _) (E_calc_Errs p (ent_none _ _))) (by kernel_rfl) (fun c v γ K => by unfold P_calc_Holds_L0; split <;> rfl) fun n c v γ K q h => by
  unfold P_calc_Holds_L0 at h
  split at h
  · exact (e_calc_Holds_L0 p _ _ _ _ _ _ _ _ _ _ _ _).trans h
  · cases h
theorem E_calc_Holds_L0 (p : Par)   (n : Nat) {F : Loop3} (hF : EntOkL (cfg p) 7 0 F) : EntOkL (cfg p) 7 0 (P_calc_Holds_L0 (Sp.calc_Holds_L0  n) F) := by
  intro c v γ K q h
  unfold P_calc_Holds_L0 at h
  split at h
  · exact E0_calc_Holds_L0 p   n _ _ _ _ _ h
  · exact hF _ _ _ _ _ h
abbrev Ty_calc_Holds_L2 : Type 1 := List (List Dat) → List (List Dat) → Int → Bool → Int → Int → (γ : Type) → (Ex → Bool → Int → Int → Option γ) → Option γ
def P_calc_Holds_L2 (X : Ty_calc_Holds_L2) (F : Loop3) : Loop3 := fun a s γ K => match a, s with
  | [AVal.dat (Dat.sl v_r), AVal.dat (Dat.sl v_), AVal.dat (Dat.int IntKind.i64 v__1)], ([AVal.dat (Dat.bool v__2), AVal.dat (Dat.int IntKind.i64 v__3), AVal.dat (Dat.int IntKind.i64 v__4)], []) => X v_r v_ v__1 v__2 v__3 v__4 γ (fun e x0 x1 x2 => K (e, ([AVal.dat (Dat.bool x0), AVal.dat (Dat.int IntKind.i64 x1), AVal.dat (Dat.int IntKind.i64 x2)], [])))
  | a, s => F a s γ K
def T_calc_Holds_L2 (x_calc_eval : Ty_calc_eval) (x_value_Truth : Ty_value_Truth) : CallK := (addK (addK noneK 22 (P_calc_eval x_calc_eval none3)) 23 (P_value_Truth x_value_Truth none3))
def L_calc_Holds_L2 (x_calc_eval : Ty_calc_eval) (x_value_Truth : Ty_value_Truth) : LoopK := noneL
def Sp.B_calc_Holds_L2 (x_calc_Holds_L2 : Ty_calc_Holds_L2) (x_calc_eval : Ty_calc_eval) (x_value_Truth : Ty_value_Truth) (v_r : List (List Dat)) (v_ : List (List Dat)) (v__1 : Int) (v__2 : Bool) (v__3 : Int) (v__4 : Int) (γ : Type) (K : Ex → Bool → Int → Int → Option γ) : Option γ := bif decide (v__4 < v__1) then elemAt v_ v__4 fun (z8 : List Dat) => bif List.length z8 == 8 then cellAt z8 0 fun (z9 : Dat) => Aev.asInt IntKind.i64 z9 fun (z10 : Int) => cellAt z8 1 fun (z11 : Dat) => Aev.asInt IntKind.i64 z11 fun (z12 : Int) => cellAt z8 2 fun (z13 : Dat) => Aev.asInt IntKind.i64 z13 fun (z14 : Int) => cellAt z8 3 fun (z15 : Dat) => Aev.asInt IntKind.i64 z15 fun (z16 : Int) => cellAt z8 4 fun (z17 : Dat) => asStr z17 fun (z18 : ByteArray) => cellAt z8 5 fun (z19 : Dat) => asStr z19 fun (z20 : ByteArray) => cellAt z8 6 fun (z21 : Dat) => asStr z21 fun (z22 : ByteArray) => cellAt z8 7 fun (z23 : Dat) => asSl z23 fun (z24 : List (List Dat)) => x_calc_eval z10 z12 z14 z16 z18 z20 z22 z24 v_r γ fun (z25 z26 : Int) (z27 : ByteArray) (z28 : Bool) => bif !z28 then K Ex.ret false 160 v__4 else x_value_Truth z25 z26 z27 γ fun (z29 : Int) => bif !decide (z29 = 1) then K Ex.ret false 0 v__4 else x_calc_Holds_L2 v_r v_ v__1 v__2 v__3 (IntKind.wrap IntKind.i64 (v__4 + 1)) γ K else none else K (Ex.exit 2) v__2 v__3 v__4
theorem e_calc_Holds_L2 (p : Par) (x_calc_Holds_L2 : Ty_calc_Holds_L2) (x_calc_eval : Ty_calc_eval) (x_value_Truth : Ty_value_Truth) (v_r : List (List Dat)) (v_ : List (List Dat)) (v__1 : Int) (v__2 : Bool) (v__3 : Int) (v__4 : Int) (γ : Type) (K : Ex × Vars → Option γ) : roundK (cfg p) (T_calc_Holds_L2 x_calc_eval x_value_Truth) (L_calc_Holds_L2 x_calc_eval x_value_Truth) 7 2 [AVal.dat (Dat.sl v_r), AVal.dat (Dat.sl v_), AVal.dat (Dat.int IntKind.i64 v__1)] ([AVal.dat (Dat.bool v__2), AVal.dat (Dat.int IntKind.i64 v__3), AVal.dat (Dat.int IntKind.i64 v__4)], []) γ (contL (fun v => P_calc_Holds_L2 x_calc_Holds_L2 noneL3 [AVal.dat (Dat.sl v_r), AVal.dat (Dat.sl v_), AVal.dat (Dat.int IntKind.i64 v__1)] v γ K) K) = Sp.B_calc_Holds_L2 x_calc_Holds_L2 x_calc_eval x_value_Truth v_r v_ v__1 v__2 v__3 v__4 γ (fun e x0 x1 x2 => K (e, ([AVal.dat (Dat.bool x0), AVal.dat (Dat.int IntKind.i64 x1), AVal.dat (Dat.int IntKind.i64 x2)], []))) := by kernel_rfl
def Sp.calc_Holds_L2 : Nat → Ty_calc_Holds_L2
  | 0 => fun _ _ _ _ _ _ _ _ => none
  | n + 1 => Sp.B_calc_Holds_L2 (Sp.calc_Holds_L2 n) (Sp.calc_eval fuel) Sp.value_Truth
theorem E0_calc_Holds_L2 (p : Par)   : ∀ n, EntOkL (cfg p) 7 2 (P_calc_Holds_L2 (Sp.calc_Holds_L2  n) noneL3) := entL_rounds (tab_call (tab_call (tab_nil _) (E_calc_eval p fuel (ent_none _ _))) (E_value_Truth p (ent_none _ _))) (by kernel_rfl) (fun c v γ K => by unfold P_calc_Holds_L2; split <;> rfl) fun n c v γ K q h => by
  unfold P_calc_Holds_L2 at h
  split at h
  · exact (e_calc_Holds_L2 p _ _ _ _ _ _ _ _ _ _ _).trans h
  · cases h
theorem E_calc_Holds_L2 (p : Par)   (n : Nat) {F : Loop3} (hF : EntOkL (cfg p) 7 2 F) : EntOkL (cfg p) 7 2 (P_calc_Holds_L2 (Sp.calc_Holds_L2  n) F) := by
  intro c v γ K q h
  unfold P_calc_Holds_L2 at h
  split at h
  · exact E0_calc_Holds_L2 p   n _ _ _ _ _ h
  · exact hF _ _ _ _ _ h
abbrev Ty_calc_Holds : Type 1 := Int → Int → Int → Int → ByteArray → ByteArray → ByteArray → List (List Dat) → List (List Dat) → (γ : Type) → (Bool → Int → Option γ) → Option γ
def P_calc_Holds (X : Ty_calc_Holds) (F : Ent3) : Ent3 := fun a s γ K => match a, s with
  | [AVal.agg [(Dat.int IntKind.i64 v_e0, Own.none), (Dat.int IntKind.i64 v_e1, Own.none), (Dat.int IntKind.i64 v_e2, Own.none), (Dat.int IntKind.i64 v_e3, Own.none), (Dat.str v_e4, Own.none), (Dat.str v_e5, Own.none), (Dat.str v_e6, Own.none), (Dat.sl v_e7, Own.none)], AVal.dat (Dat.sl v_r)], [] => X v_e0 v_e1 v_e2 v_e3 v_e4 v_e5 v_e6 v_e7 v_r γ (fun r0 r1 => K ([(AVal.dat (Dat.bool r0), Own.none), (AVal.dat (Dat.int IntKind.i64 r1), Own.none)], []))
  | a, s => F a s γ K
def T_calc_Holds (x_calc_may : Ty_calc_may) (x_expr_Parts : Ty_expr_Parts) (x_calc_Holds_L0 : Ty_calc_Holds_L0) (x_calc_Holds_L2 : Ty_calc_Holds_L2) : CallK := (addK (addK noneK 20 (P_calc_may x_calc_may none3)) 21 (P_expr_Parts x_expr_Parts none3))
def L_calc_Holds (x_calc_may : Ty_calc_may) (x_expr_Parts : Ty_expr_Parts) (x_calc_Holds_L0 : Ty_calc_Holds_L0) (x_calc_Holds_L2 : Ty_calc_Holds_L2) : LoopK := (addL (addL noneL 7 0 (P_calc_Holds_L0 x_calc_Holds_L0 noneL3)) 7 2 (P_calc_Holds_L2 x_calc_Holds_L2 noneL3))
def Sp.B_calc_Holds (x_calc_may : Ty_calc_may) (x_expr_Parts : Ty_expr_Parts) (x_calc_Holds_L0 : Ty_calc_Holds_L0) (x_calc_Holds_L2 : Ty_calc_Holds_L2) (v_e0 : Int) (v_e1 : Int) (v_e2 : Int) (v_e3 : Int) (v_e4 : ByteArray) (v_e5 : ByteArray) (v_e6 : ByteArray) (v_e7 : List (List Dat)) (v_r : List (List Dat)) (γ : Type) (K : Bool → Int → Option γ) : Option γ := x_calc_may v_e0 v_e1 v_e2 v_e3 v_e4 v_e5 v_e6 v_e7 γ fun (z11 : Int) => bif !decide (z11 = 0) then K false z11 else x_expr_Parts v_e0 v_e1 v_e2 v_e3 v_e4 v_e5 v_e6 v_e7 γ fun (z12 : List (List Dat)) => x_calc_Holds_L0 v_r false 0 z12 (Int.ofNat (List.length z12)) [] [] 0 γ fun (z13 : Ex) (z14 z15 : List (List Dat)) (z16 : Int) => bif sized z14 8 then bif sized z15 8 then bif Ex.isExit z13 0 then bif sized z14 8 && sized z15 8 && true && decide ((List.length z14 + List.length z15) * 105 ≤ 70368744177664) && true then x_calc_Holds_L2 v_r (z14 ++ z15) (Int.ofNat (List.length (z14 ++ z15))) false 0 0 γ fun (z17 : Ex) (z18 : Bool) (z19 z20 : Int) => bif Ex.isExit z17 2 then K true 0 else bif Ex.isRet z17 then K z18 z19 else none else none else bif Ex.isRet z13 then K false 0 else none else none else none
theorem e_calc_Holds (p : Par) (x_calc_may : Ty_calc_may) (x_expr_Parts : Ty_expr_Parts) (x_calc_Holds_L0 : Ty_calc_Holds_L0) (x_calc_Holds_L2 : Ty_calc_Holds_L2) (v_e0 : Int) (v_e1 : Int) (v_e2 : Int) (v_e3 : Int) (v_e4 : ByteArray) (v_e5 : ByteArray) (v_e6 : ByteArray) (v_e7 : List (List Dat)) (v_r : List (List Dat)) (γ : Type) (K : List Ent × Sig → Option γ) : evFK (cfg p) (T_calc_Holds x_calc_may x_expr_Parts x_calc_Holds_L0 x_calc_Holds_L2) (L_calc_Holds x_calc_may x_expr_Parts x_calc_Holds_L0 x_calc_Holds_L2) 7 [AVal.agg [(Dat.int IntKind.i64 v_e0, Own.none), (Dat.int IntKind.i64 v_e1, Own.none), (Dat.int IntKind.i64 v_e2, Own.none), (Dat.int IntKind.i64 v_e3, Own.none), (Dat.str v_e4, Own.none), (Dat.str v_e5, Own.none), (Dat.str v_e6, Own.none), (Dat.sl v_e7, Own.none)], AVal.dat (Dat.sl v_r)] [] γ K = Sp.B_calc_Holds x_calc_may x_expr_Parts x_calc_Holds_L0 x_calc_Holds_L2 v_e0 v_e1 v_e2 v_e3 v_e4 v_e5 v_e6 v_e7 v_r γ (fun r0 r1 => K ([(AVal.dat (Dat.bool r0), Own.none), (AVal.dat (Dat.int IntKind.i64 r1), Own.none)], [])) := by kernel_rfl
def Sp.calc_Holds : Ty_calc_Holds := Sp.B_calc_Holds Sp.calc_may Sp.expr_Parts (Sp.calc_Holds_L0 fuel) (Sp.calc_Holds_L2 fuel)
theorem E_calc_Holds (p : Par) {F : Ent3} (hF : EntOk (cfg p) 7 F) : EntOk (cfg p) 7 (P_calc_Holds Sp.calc_Holds F) := by
  intro a s γ K q h
  unfold P_calc_Holds at h
  split at h
  · exact body_ok (tab_loop (tab_loop (tab_call (tab_call (tab_nil _) (E_calc_may p (ent_none _ _))) (E_expr_Parts p (ent_none _ _))) (E_calc_Holds_L0 p fuel (entL_none _ _ _))) (E_calc_Holds_L2 p fuel (entL_none _ _ _))) rfl ((e_calc_Holds p _ _ _ _ _ _ _ _ _ _ _ _ _ _ _).trans h)
  · exact hF _ _ _ _ _ h
abbrev Ty_calc_sum : Type 1 := Int → Int → ByteArray → Int → Int → ByteArray → (γ : Type) → (Int → Int → ByteArray → Bool → Option γ) → Option γ
def P_calc_sum (X : Ty_calc_sum) (F : Ent3) : Ent3 := fun a s γ K => match a, s with
  | [AVal.agg [(Dat.int IntKind.i64 v_a0, Own.none), (Dat.int IntKind.i64 v_a1, Own.none), (Dat.str v_a2, Own.none)], AVal.agg [(Dat.int IntKind.i64 v_b0, Own.none), (Dat.int IntKind.i64 v_b1, Own.none), (Dat.str v_b2, Own.none)]], [] => X v_a0 v_a1 v_a2 v_b0 v_b1 v_b2 γ (fun r0 r1 r2 r3 => K ([(AVal.agg [(Dat.int IntKind.i64 r0, Own.none), (Dat.int IntKind.i64 r1, Own.none), (Dat.str r2, Own.none)], Own.none), (AVal.dat (Dat.bool r3), Own.none)], []))
  | a, s => F a s γ K
def T_calc_sum (x_value_Check : Ty_value_Check) (x_calc_within : Ty_calc_within) (x_value_Int : Ty_value_Int) : CallK := (addK (addK (addK noneK 39 (P_value_Check x_value_Check none3)) 42 (P_calc_within x_calc_within none3)) 29 (P_value_Int x_value_Int none3))
def L_calc_sum (x_value_Check : Ty_value_Check) (x_calc_within : Ty_calc_within) (x_value_Int : Ty_value_Int) : LoopK := noneL
def Sp.B_calc_sum (x_value_Check : Ty_value_Check) (x_calc_within : Ty_calc_within) (x_value_Int : Ty_value_Int) (v_a0 : Int) (v_a1 : Int) (v_a2 : ByteArray) (v_b0 : Int) (v_b1 : Int) (v_b2 : ByteArray) (γ : Type) (K : Int → Int → ByteArray → Bool → Option γ) : Option γ := bif !decide (v_b0 = 2) then K 0 0 (bs []) false else x_value_Check v_b0 v_b1 v_b2 γ fun (z8 : Int) => bif !decide (z8 = 0) then K 0 0 (bs []) false else x_calc_within (IntKind.wrap IntKind.i64 (v_a1 + v_b1)) γ fun (z9 : Bool) => bif !z9 then K 0 0 (bs []) false else x_value_Int (IntKind.wrap IntKind.i64 (v_a1 + v_b1)) γ fun (z10 z11 : Int) (z12 : ByteArray) => K z10 z11 z12 true
theorem e_calc_sum (p : Par) (x_value_Check : Ty_value_Check) (x_calc_within : Ty_calc_within) (x_value_Int : Ty_value_Int) (v_a0 : Int) (v_a1 : Int) (v_a2 : ByteArray) (v_b0 : Int) (v_b1 : Int) (v_b2 : ByteArray) (γ : Type) (K : List Ent × Sig → Option γ) : evFK (cfg p) (T_calc_sum x_value_Check x_calc_within x_value_Int) (L_calc_sum x_value_Check x_calc_within x_value_Int) 30 [AVal.agg [(Dat.int IntKind.i64 v_a0, Own.none), (Dat.int IntKind.i64 v_a1, Own.none), (Dat.str v_a2, Own.none)], AVal.agg [(Dat.int IntKind.i64 v_b0, Own.none), (Dat.int IntKind.i64 v_b1, Own.none), (Dat.str v_b2, Own.none)]] [] γ K = Sp.B_calc_sum x_value_Check x_calc_within x_value_Int v_a0 v_a1 v_a2 v_b0 v_b1 v_b2 γ (fun r0 r1 r2 r3 => K ([(AVal.agg [(Dat.int IntKind.i64 r0, Own.none), (Dat.int IntKind.i64 r1, Own.none), (Dat.str r2, Own.none)], Own.none), (AVal.dat (Dat.bool r3), Own.none)], [])) := by kernel_rfl
def Sp.calc_sum : Ty_calc_sum := Sp.B_calc_sum Sp.value_Check Sp.calc_within Sp.value_Int
theorem E_calc_sum (p : Par) {F : Ent3} (hF : EntOk (cfg p) 30 F) : EntOk (cfg p) 30 (P_calc_sum Sp.calc_sum F) := by
  intro a s γ K q h
  unfold P_calc_sum at h
  split at h
  · exact body_ok (tab_call (tab_call (tab_call (tab_nil _) (E_value_Check p (ent_none _ _))) (E_calc_within p (ent_none _ _))) (E_value_Int p (ent_none _ _))) rfl ((e_calc_sum p _ _ _ _ _ _ _ _ _ _ _).trans h)
  · exact hF _ _ _ _ _ h
abbrev Ty_calc_reduce_L0 : Type 1 := List (List Dat) → Int → Int → Bool → Int → Int → Int → Int → ByteArray → Int → Int → ByteArray → (γ : Type) → (Ex → Int → Bool → Int → Int → Int → Int → ByteArray → Int → Int → ByteArray → Option γ) → Option γ
def P_calc_reduce_L0 (X : Ty_calc_reduce_L0) (F : Loop3) : Loop3 := fun a s γ K => match a, s with
  | [AVal.clo (Fn.func 30) [] [], AVal.loc 4 0, AVal.loc 7 0, AVal.dat (Dat.sl v_), AVal.dat (Dat.int IntKind.i64 v__1)], ([AVal.dat (Dat.int IntKind.i64 v__2), AVal.dat (Dat.bool v__3), AVal.dat (Dat.int IntKind.i64 v_n), AVal.dat (Dat.int IntKind.i64 v__4), AVal.agg [(Dat.int IntKind.i64 v_box0, Own.none), (Dat.int IntKind.i64 v_box1, Own.none), (Dat.str v_box2, Own.none)], AVal.agg [(Dat.int IntKind.i64 v_box0_1, Own.none), (Dat.int IntKind.i64 v_box1_1, Own.none), (Dat.str v_box2_1, Own.none)]], []) => X v_ v__1 v__2 v__3 v_n v__4 v_box0 v_box1 v_box2 v_box0_1 v_box1_1 v_box2_1 γ (fun e x0 x1 x2 x3 x4 x5 x6 x7 x8 x9 => K (e, ([AVal.dat (Dat.int IntKind.i64 x0), AVal.dat (Dat.bool x1), AVal.dat (Dat.int IntKind.i64 x2), AVal.dat (Dat.int IntKind.i64 x3), AVal.agg [(Dat.int IntKind.i64 x4, Own.none), (Dat.int IntKind.i64 x5, Own.none), (Dat.str x6, Own.none)], AVal.agg [(Dat.int IntKind.i64 x7, Own.none), (Dat.int IntKind.i64 x8, Own.none), (Dat.str x9, Own.none)]], [])))
  | a, s => F a s γ K
def T_calc_reduce_L0 (x_calc_sum : Ty_calc_sum) : CallK := (addK noneK 30 (P_calc_sum x_calc_sum none3))
def L_calc_reduce_L0 (x_calc_sum : Ty_calc_sum) : LoopK := noneL
def Sp.B_calc_reduce_L0 (x_calc_reduce_L0 : Ty_calc_reduce_L0) (x_calc_sum : Ty_calc_sum) (v_ : List (List Dat)) (v__1 : Int) (v__2 : Int) (v__3 : Bool) (v_n : Int) (v__4 : Int) (v_box0 : Int) (v_box1 : Int) (v_box2 : ByteArray) (v_box0_1 : Int) (v_box1_1 : Int) (v_box2_1 : ByteArray) (γ : Type) (K : Ex → Int → Bool → Int → Int → Int → Int → ByteArray → Int → Int → ByteArray → Option γ) : Option γ := bif decide (v__4 < v__1) then elemAt v_ v__4 fun (z14 : List Dat) => bif List.length z14 == 3 then cellAt z14 0 fun (z15 : Dat) => Aev.asInt IntKind.i64 z15 fun (z16 : Int) => cellAt z14 1 fun (z17 : Dat) => Aev.asInt IntKind.i64 z17 fun (z18 : Int) => cellAt z14 2 fun (z19 : Dat) => asStr z19 fun (z20 : ByteArray) => bif decide (z16 = 0) then x_calc_reduce_L0 v_ v__1 v__2 v__3 v_n (IntKind.wrap IntKind.i64 (v__4 + 1)) v_box0 v_box1 v_box2 v_box0_1 v_box1_1 v_box2_1 γ K else x_calc_sum v_box0_1 v_box1_1 v_box2_1 z16 z18 z20 γ fun (z21 z22 : Int) (z23 : ByteArray) (z24 : Bool) => bif !z24 then K Ex.ret 0 false (IntKind.wrap IntKind.i64 (v_n + 1)) v__4 0 0 (bs []) z21 z22 z23 else x_calc_reduce_L0 v_ v__1 v__2 v__3 (IntKind.wrap IntKind.i64 (v_n + 1)) (IntKind.wrap IntKind.i64 (v__4 + 1)) v_box0 v_box1 v_box2 z21 z22 z23 γ K else none else K (Ex.exit 0) v__2 v__3 v_n v__4 v_box0 v_box1 v_box2 v_box0_1 v_box1_1 v_box2_1
theorem e_calc_reduce_L0 (p : Par) (x_calc_reduce_L0 : Ty_calc_reduce_L0) (x_calc_sum : Ty_calc_sum) (v_ : List (List Dat)) (v__1 : Int) (v__2 : Int) (v__3 : Bool) (v_n : Int) (v__4 : Int) (v_box0 : Int) (v_box1 : Int) (v_box2 : ByteArray) (v_box0_1 : Int) (v_box1_1 : Int) (v_box2_1 : ByteArray) (γ : Type) (K : Ex × Vars → Option γ) : roundK (cfg p) (T_calc_reduce_L0 x_calc_sum) (L_calc_reduce_L0 x_calc_sum) 32 0 [AVal.clo (Fn.func 30) [] [], AVal.loc 4 0, AVal.loc 7 0, AVal.dat (Dat.sl v_), AVal.dat (Dat.int IntKind.i64 v__1)] ([AVal.dat (Dat.int IntKind.i64 v__2), AVal.dat (Dat.bool v__3), AVal.dat (Dat.int IntKind.i64 v_n), AVal.dat (Dat.int IntKind.i64 v__4), AVal.agg [(Dat.int IntKind.i64 v_box0, Own.none), (Dat.int IntKind.i64 v_box1, Own.none), (Dat.str v_box2, Own.none)], AVal.agg [(Dat.int IntKind.i64 v_box0_1, Own.none), (Dat.int IntKind.i64 v_box1_1, Own.none), (Dat.str v_box2_1, Own.none)]], []) γ (contL (fun v => P_calc_reduce_L0 x_calc_reduce_L0 noneL3 [AVal.clo (Fn.func 30) [] [], AVal.loc 4 0, AVal.loc 7 0, AVal.dat (Dat.sl v_), AVal.dat (Dat.int IntKind.i64 v__1)] v γ K) K) = Sp.B_calc_reduce_L0 x_calc_reduce_L0 x_calc_sum v_ v__1 v__2 v__3 v_n v__4 v_box0 v_box1 v_box2 v_box0_1 v_box1_1 v_box2_1 γ (fun e x0 x1 x2 x3 x4 x5 x6 x7 x8 x9 => K (e, ([AVal.dat (Dat.int IntKind.i64 x0), AVal.dat (Dat.bool x1), AVal.dat (Dat.int IntKind.i64 x2), AVal.dat (Dat.int IntKind.i64 x3), AVal.agg [(Dat.int IntKind.i64 x4, Own.none), (Dat.int IntKind.i64 x5, Own.none), (Dat.str x6, Own.none)], AVal.agg [(Dat.int IntKind.i64 x7, Own.none), (Dat.int IntKind.i64 x8, Own.none), (Dat.str x9, Own.none)]], []))) := by kernel_rfl
def Sp.calc_reduce_L0 : Nat → Ty_calc_reduce_L0
  | 0 => fun _ _ _ _ _ _ _ _ _ _ _ _ _ _ => none
  | n + 1 => Sp.B_calc_reduce_L0 (Sp.calc_reduce_L0 n) Sp.calc_sum
theorem E0_calc_reduce_L0 (p : Par)   : ∀ n, EntOkL (cfg p) 32 0 (P_calc_reduce_L0 (Sp.calc_reduce_L0  n) noneL3) := entL_rounds (tab_call (tab_nil _) (E_calc_sum p (ent_none _ _))) (by kernel_rfl) (fun c v γ K => by unfold P_calc_reduce_L0; split <;> rfl) fun n c v γ K q h => by
  unfold P_calc_reduce_L0 at h
  split at h
  · exact (e_calc_reduce_L0 p _ _ _ _ _ _ _ _ _ _ _ _ _ _ _ _).trans h
  · cases h
theorem E_calc_reduce_L0 (p : Par)   (n : Nat) {F : Loop3} (hF : EntOkL (cfg p) 32 0 F) : EntOkL (cfg p) 32 0 (P_calc_reduce_L0 (Sp.calc_reduce_L0  n) F) := by
  intro c v γ K q h
  unfold P_calc_reduce_L0 at h
  split at h
  · exact E0_calc_reduce_L0 p   n _ _ _ _ _ h
  · exact hF _ _ _ _ _ h
abbrev Ty_calc_reduce : Type 1 := List (List Dat) → (γ : Type) → (Int → Int → ByteArray → Int → Bool → Option γ) → Option γ
def P_calc_reduce (X : Ty_calc_reduce) (F : Ent3) : Ent3 := fun a s γ K => match a, s with
  | [AVal.dat (Dat.sl v_l), AVal.clo (Fn.func 30) [] []], [] => X v_l γ (fun r0 r1 r2 r3 r4 => K ([(AVal.agg [(Dat.int IntKind.i64 r0, Own.none), (Dat.int IntKind.i64 r1, Own.none), (Dat.str r2, Own.none)], Own.none), (AVal.dat (Dat.int IntKind.i64 r3), Own.none), (AVal.dat (Dat.bool r4), Own.none)], []))
  | a, s => F a s γ K
def T_calc_reduce (x_value_Null : Ty_value_Null) (x_calc_reduce_L0 : Ty_calc_reduce_L0) : CallK := (addK noneK 38 (P_value_Null x_value_Null none3))
def L_calc_reduce (x_value_Null : Ty_value_Null) (x_calc_reduce_L0 : Ty_calc_reduce_L0) : LoopK := (addL noneL 32 0 (P_calc_reduce_L0 x_calc_reduce_L0 noneL3))
def Sp.B_calc_reduce (x_value_Null : Ty_value_Null) (x_calc_reduce_L0 : Ty_calc_reduce_L0) (v_l : List (List Dat)) (γ : Type) (K : Int → Int → ByteArray → Int → Bool → Option γ) : Option γ := x_value_Null γ fun (z3 z4 : Int) (z5 : ByteArray) => x_calc_reduce_L0 v_l (Int.ofNat (List.length v_l)) 0 false 0 0 0 0 (bs []) z3 z4 z5 γ fun (z6 : Ex) (z7 : Int) (z8 : Bool) (z9 z10 z11 z12 : Int) (z13 : ByteArray) (z14 z15 : Int) (z16 : ByteArray) => bif Ex.isExit z6 0 then K z14 z15 z16 z9 true else bif Ex.isRet z6 then K z11 z12 z13 z7 z8 else none
theorem e_calc_reduce (p : Par) (x_value_Null : Ty_value_Null) (x_calc_reduce_L0 : Ty_calc_reduce_L0) (v_l : List (List Dat)) (γ : Type) (K : List Ent × Sig → Option γ) : evFK (cfg p) (T_calc_reduce x_value_Null x_calc_reduce_L0) (L_calc_reduce x_value_Null x_calc_reduce_L0) 32 [AVal.dat (Dat.sl v_l), AVal.clo (Fn.func 30) [] []] [] γ K = Sp.B_calc_reduce x_value_Null x_calc_reduce_L0 v_l γ (fun r0 r1 r2 r3 r4 => K ([(AVal.agg [(Dat.int IntKind.i64 r0, Own.none), (Dat.int IntKind.i64 r1, Own.none), (Dat.str r2, Own.none)], Own.none), (AVal.dat (Dat.int IntKind.i64 r3), Own.none), (AVal.dat (Dat.bool r4), Own.none)], [])) := by kernel_rfl
def Sp.calc_reduce : Ty_calc_reduce := Sp.B_calc_reduce Sp.value_Null (Sp.calc_reduce_L0 fuel)
theorem E_calc_reduce (p : Par) {F : Ent3} (hF : EntOk (cfg p) 32 F) : EntOk (cfg p) 32 (P_calc_reduce Sp.calc_reduce F) := by
  intro a s γ K q h
  unfold P_calc_reduce at h
  split at h
  · exact body_ok (tab_loop (tab_call (tab_nil _) (E_value_Null p (ent_none _ _))) (E_calc_reduce_L0 p fuel (entL_none _ _ _))) rfl ((e_calc_reduce p _ _ _ _ _).trans h)
  · exact hF _ _ _ _ _ h
abbrev Ty_calc_first : Type 1 := Int → Int → ByteArray → Int → Int → ByteArray → (γ : Type) → (Int → Int → ByteArray → Bool → Option γ) → Option γ
def P_calc_first (X : Ty_calc_first) (F : Ent3) : Ent3 := fun a s γ K => match a, s with
  | [AVal.agg [(Dat.int IntKind.i64 v_a0, Own.none), (Dat.int IntKind.i64 v_a1, Own.none), (Dat.str v_a2, Own.none)], AVal.agg [(Dat.int IntKind.i64 v_b0, Own.none), (Dat.int IntKind.i64 v_b1, Own.none), (Dat.str v_b2, Own.none)]], [] => X v_a0 v_a1 v_a2 v_b0 v_b1 v_b2 γ (fun r0 r1 r2 r3 => K ([(AVal.agg [(Dat.int IntKind.i64 r0, Own.none), (Dat.int IntKind.i64 r1, Own.none), (Dat.str r2, Own.none)], Own.none), (AVal.dat (Dat.bool r3), Own.none)], []))
  | a, s => F a s γ K
def T_calc_first (x_value_Compare : Ty_value_Compare) : CallK := (addK noneK 41 (P_value_Compare x_value_Compare none3))
def L_calc_first (x_value_Compare : Ty_value_Compare) : LoopK := noneL
def Sp.B_calc_first (x_value_Compare : Ty_value_Compare) (v_a0 : Int) (v_a1 : Int) (v_a2 : ByteArray) (v_b0 : Int) (v_b1 : Int) (v_b2 : ByteArray) (γ : Type) (K : Int → Int → ByteArray → Bool → Option γ) : Option γ := bif decide (v_a0 = 0) then K v_b0 v_b1 v_b2 true else x_value_Compare v_b0 v_b1 v_b2 v_a0 v_a1 v_a2 γ fun (z8 : Int) => bif decide (z8 < 0) then K v_b0 v_b1 v_b2 true else K v_a0 v_a1 v_a2 true
theorem e_calc_first (p : Par) (x_value_Compare : Ty_value_Compare) (v_a0 : Int) (v_a1 : Int) (v_a2 : ByteArray) (v_b0 : Int) (v_b1 : Int) (v_b2 : ByteArray) (γ : Type) (K : List Ent × Sig → Option γ) : evFK (cfg p) (T_calc_first x_value_Compare) (L_calc_first x_value_Compare) 31 [AVal.agg [(Dat.int IntKind.i64 v_a0, Own.none), (Dat.int IntKind.i64 v_a1, Own.none), (Dat.str v_a2, Own.none)], AVal.agg [(Dat.int IntKind.i64 v_b0, Own.none), (Dat.int IntKind.i64 v_b1, Own.none), (Dat.str v_b2, Own.none)]] [] γ K = Sp.B_calc_first x_value_Compare v_a0 v_a1 v_a2 v_b0 v_b1 v_b2 γ (fun r0 r1 r2 r3 => K ([(AVal.agg [(Dat.int IntKind.i64 r0, Own.none), (Dat.int IntKind.i64 r1, Own.none), (Dat.str r2, Own.none)], Own.none), (AVal.dat (Dat.bool r3), Own.none)], [])) := by kernel_rfl
def Sp.calc_first : Ty_calc_first := Sp.B_calc_first Sp.value_Compare
theorem E_calc_first (p : Par) {F : Ent3} (hF : EntOk (cfg p) 31 F) : EntOk (cfg p) 31 (P_calc_first Sp.calc_first F) := by
  intro a s γ K q h
  unfold P_calc_first at h
  split at h
  · exact body_ok (tab_call (tab_nil _) (E_value_Compare p (ent_none _ _))) rfl ((e_calc_first p _ _ _ _ _ _ _ _ _).trans h)
  · exact hF _ _ _ _ _ h
abbrev Ty_calc_reduce_L0'1 : Type 1 := List (List Dat) → Int → Int → Bool → Int → Int → Int → Int → ByteArray → Int → Int → ByteArray → (γ : Type) → (Ex → Int → Bool → Int → Int → Int → Int → ByteArray → Int → Int → ByteArray → Option γ) → Option γ
def P_calc_reduce_L0'1 (X : Ty_calc_reduce_L0'1) (F : Loop3) : Loop3 := fun a s γ K => match a, s with
  | [AVal.clo (Fn.func 31) [] [], AVal.loc 4 0, AVal.loc 7 0, AVal.dat (Dat.sl v_), AVal.dat (Dat.int IntKind.i64 v__1)], ([AVal.dat (Dat.int IntKind.i64 v__2), AVal.dat (Dat.bool v__3), AVal.dat (Dat.int IntKind.i64 v_n), AVal.dat (Dat.int IntKind.i64 v__4), AVal.agg [(Dat.int IntKind.i64 v_box0, Own.none), (Dat.int IntKind.i64 v_box1, Own.none), (Dat.str v_box2, Own.none)], AVal.agg [(Dat.int IntKind.i64 v_box0_1, Own.none), (Dat.int IntKind.i64 v_box1_1, Own.none), (Dat.str v_box2_1, Own.none)]], []) => X v_ v__1 v__2 v__3 v_n v__4 v_box0 v_box1 v_box2 v_box0_1 v_box1_1 v_box2_1 γ (fun e x0 x1 x2 x3 x4 x5 x6 x7 x8 x9 => K (e, ([AVal.dat (Dat.int IntKind.i64 x0), AVal.dat (Dat.bool x1), AVal.dat (Dat.int IntKind.i64 x2), AVal.dat (Dat.int IntKind.i64 x3), AVal.agg [(Dat.int IntKind.i64 x4, Own.none), (Dat.int IntKind.i64 x5, Own.none), (Dat.str x6, Own.none)], AVal.agg [(Dat.int IntKind.i64 x7, Own.none), (Dat.int IntKind.i64 x8, Own.none), (Dat.str x9, Own.none)]], [])))
  | a, s => F a s γ K
def T_calc_reduce_L0'1 (x_calc_first : Ty_calc_first) : CallK := (addK noneK 31 (P_calc_first x_calc_first none3))
def L_calc_reduce_L0'1 (x_calc_first : Ty_calc_first) : LoopK := noneL
def Sp.B_calc_reduce_L0'1 (x_calc_reduce_L0'1 : Ty_calc_reduce_L0'1) (x_calc_first : Ty_calc_first) (v_ : List (List Dat)) (v__1 : Int) (v__2 : Int) (v__3 : Bool) (v_n : Int) (v__4 : Int) (v_box0 : Int) (v_box1 : Int) (v_box2 : ByteArray) (v_box0_1 : Int) (v_box1_1 : Int) (v_box2_1 : ByteArray) (γ : Type) (K : Ex → Int → Bool → Int → Int → Int → Int → ByteArray → Int → Int → ByteArray → Option γ) : Option γ := bif decide (v__4 < v__1) then elemAt v_ v__4 fun (z14 : List Dat) => bif List.length z14 == 3 then cellAt z14 0 fun (z15 : Dat) => Aev.asInt IntKind.i64 z15 fun (z16 : Int) => cellAt z14 1 fun (z17 : Dat) => Aev.asInt IntKind.i64 z17 fun (z18 : Int) => cellAt z14 2 fun (z19 : Dat) => asStr z19 fun (z20 : ByteArray) => bif decide (z16 = 0) then x_calc_reduce_L0'1 v_ v__1 v__2 v__3 v_n (IntKind.wrap IntKind.i64 (v__4 + 1)) v_box0 v_box1 v_box2 v_box0_1 v_box1_1 v_box2_1 γ K else x_calc_first v_box0_1 v_box1_1 v_box2_1 z16 z18 z20 γ fun (z21 z22 : Int) (z23 : ByteArray) (z24 : Bool) => bif !z24 then K Ex.ret 0 false (IntKind.wrap IntKind.i64 (v_n + 1)) v__4 0 0 (bs []) z21 z22 z23 else x_calc_reduce_L0'1 v_ v__1 v__2 v__3 (IntKind.wrap IntKind.i64 (v_n + 1)) (IntKind.wrap IntKind.i64 (v__4 + 1)) v_box0 v_box1 v_box2 z21 z22 z23 γ K else none else K (Ex.exit 0) v__2 v__3 v_n v__4 v_box0 v_box1 v_box2 v_box0_1 v_box1_1 v_box2_1
theorem e_calc_reduce_L0'1 (p : Par) (x_calc_reduce_L0'1 : Ty_calc_reduce_L0'1) (x_calc_first : Ty_calc_first) (v_ : List (List Dat)) (v__1 : Int) (v__2 : Int) (v__3 : Bool) (v_n : Int) (v__4 : Int) (v_box0 : Int) (v_box1 : Int) (v_box2 : ByteArray) (v_box0_1 : Int) (v_box1_1 : Int) (v_box2_1 : ByteArray) (γ : Type) (K : Ex × Vars → Option γ) : roundK (cfg p) (T_calc_reduce_L0'1 x_calc_first) (L_calc_reduce_L0'1 x_calc_first) 32 0 [AVal.clo (Fn.func 31) [] [], AVal.loc 4 0, AVal.loc 7 0, AVal.dat (Dat.sl v_), AVal.dat (Dat.int IntKind.i64 v__1)] ([AVal.dat (Dat.int IntKind.i64 v__2), AVal.dat (Dat.bool v__3), AVal.dat (Dat.int IntKind.i64 v_n), AVal.dat (Dat.int IntKind.i64 v__4), AVal.agg [(Dat.int IntKind.i64 v_box0, Own.none), (Dat.int IntKind.i64 v_box1, Own.none), (Dat.str v_box2, Own.none)], AVal.agg [(Dat.int IntKind.i64 v_box0_1, Own.none), (Dat.int IntKind.i64 v_box1_1, Own.none), (Dat.str v_box2_1, Own.none)]], []) γ (contL (fun v => P_calc_reduce_L0'1 x_calc_reduce_L0'1 noneL3 [AVal.clo (Fn.func 31) [] [], AVal.loc 4 0, AVal.loc 7 0, AVal.dat (Dat.sl v_), AVal.dat (Dat.int IntKind.i64 v__1)] v γ K) K) = Sp.B_calc_reduce_L0'1 x_calc_reduce_L0'1 x_calc_first v_ v__1 v__2 v__3 v_n v__4 v_box0 v_box1 v_box2 v_box0_1 v_box1_1 v_box2_1 γ (fun e x0 x1 x2 x3 x4 x5 x6 x7 x8 x9 => K (e, ([AVal.dat (Dat.int IntKind.i64 x0), AVal.dat (Dat.bool x1), AVal.dat (Dat.int IntKind.i64 x2), AVal.dat (Dat.int IntKind.i64 x3), AVal.agg [(Dat.int IntKind.i64 x4, Own.none), (Dat.int IntKind.i64 x5, Own.none), (Dat.str x6, Own.none)], AVal.agg [(Dat.int IntKind.i64 x7, Own.none), (Dat.int IntKind.i64 x8, Own.none), (Dat.str x9, Own.none)]], []))) := by kernel_rfl
def Sp.calc_reduce_L0'1 : Nat → Ty_calc_reduce_L0'1
  | 0 => fun _ _ _ _ _ _ _ _ _ _ _ _ _ _ => none
  | n + 1 => Sp.B_calc_reduce_L0'1 (Sp.calc_reduce_L0'1 n) Sp.calc_first
theorem E0_calc_reduce_L0'1 (p : Par)   : ∀ n, EntOkL (cfg p) 32 0 (P_calc_reduce_L0'1 (Sp.calc_reduce_L0'1  n) noneL3) := entL_rounds (tab_call (tab_nil _) (E_calc_first p (ent_none _ _))) (by kernel_rfl) (fun c v γ K => by unfold P_calc_reduce_L0'1; split <;> rfl) fun n c v γ K q h => by
  unfold P_calc_reduce_L0'1 at h
  split at h
  · exact (e_calc_reduce_L0'1 p _ _ _ _ _ _ _ _ _ _ _ _ _ _ _ _).trans h
  · cases h
theorem E_calc_reduce_L0'1 (p : Par)   (n : Nat) {F : Loop3} (hF : EntOkL (cfg p) 32 0 F) : EntOkL (cfg p) 32 0 (P_calc_reduce_L0'1 (Sp.calc_reduce_L0'1  n) F) := by
  intro c v γ K q h
  unfold P_calc_reduce_L0'1 at h
  split at h
  · exact E0_calc_reduce_L0'1 p   n _ _ _ _ _ h
  · exact hF _ _ _ _ _ h
abbrev Ty_calc_reduce'1 : Type 1 := List (List Dat) → (γ : Type) → (Int → Int → ByteArray → Int → Bool → Option γ) → Option γ
def P_calc_reduce'1 (X : Ty_calc_reduce'1) (F : Ent3) : Ent3 := fun a s γ K => match a, s with
  | [AVal.dat (Dat.sl v_l), AVal.clo (Fn.func 31) [] []], [] => X v_l γ (fun r0 r1 r2 r3 r4 => K ([(AVal.agg [(Dat.int IntKind.i64 r0, Own.none), (Dat.int IntKind.i64 r1, Own.none), (Dat.str r2, Own.none)], Own.none), (AVal.dat (Dat.int IntKind.i64 r3), Own.none), (AVal.dat (Dat.bool r4), Own.none)], []))
  | a, s => F a s γ K
def T_calc_reduce'1 (x_value_Null : Ty_value_Null) (x_calc_reduce_L0'1 : Ty_calc_reduce_L0'1) : CallK := (addK noneK 38 (P_value_Null x_value_Null none3))
def L_calc_reduce'1 (x_value_Null : Ty_value_Null) (x_calc_reduce_L0'1 : Ty_calc_reduce_L0'1) : LoopK := (addL noneL 32 0 (P_calc_reduce_L0'1 x_calc_reduce_L0'1 noneL3))
def Sp.B_calc_reduce'1 (x_value_Null : Ty_value_Null) (x_calc_reduce_L0'1 : Ty_calc_reduce_L0'1) (v_l : List (List Dat)) (γ : Type) (K : Int → Int → ByteArray → Int → Bool → Option γ) : Option γ := x_value_Null γ fun (z3 z4 : Int) (z5 : ByteArray) => x_calc_reduce_L0'1 v_l (Int.ofNat (List.length v_l)) 0 false 0 0 0 0 (bs []) z3 z4 z5 γ fun (z6 : Ex) (z7 : Int) (z8 : Bool) (z9 z10 z11 z12 : Int) (z13 : ByteArray) (z14 z15 : Int) (z16 : ByteArray) => bif Ex.isExit z6 0 then K z14 z15 z16 z9 true else bif Ex.isRet z6 then K z11 z12 z13 z7 z8 else none
theorem e_calc_reduce'1 (p : Par) (x_value_Null : Ty_value_Null) (x_calc_reduce_L0'1 : Ty_calc_reduce_L0'1) (v_l : List (List Dat)) (γ : Type) (K : List Ent × Sig → Option γ) : evFK (cfg p) (T_calc_reduce'1 x_value_Null x_calc_reduce_L0'1) (L_calc_reduce'1 x_value_Null x_calc_reduce_L0'1) 32 [AVal.dat (Dat.sl v_l), AVal.clo (Fn.func 31) [] []] [] γ K = Sp.B_calc_reduce'1 x_value_Null x_calc_reduce_L0'1 v_l γ (fun r0 r1 r2 r3 r4 => K ([(AVal.agg [(Dat.int IntKind.i64 r0, Own.none), (Dat.int IntKind.i64 r1, Own.none), (Dat.str r2, Own.none)], Own.none), (AVal.dat (Dat.int IntKind.i64 r3), Own.none), (AVal.dat (Dat.bool r4), Own.none)], [])) := by kernel_rfl
def Sp.calc_reduce'1 : Ty_calc_reduce'1 := Sp.B_calc_reduce'1 Sp.value_Null (Sp.calc_reduce_L0'1 fuel)
theorem E_calc_reduce'1 (p : Par) {F : Ent3} (hF : EntOk (cfg p) 32 F) : EntOk (cfg p) 32 (P_calc_reduce'1 Sp.calc_reduce'1 F) := by
  intro a s γ K q h
  unfold P_calc_reduce'1 at h
  split at h
  · exact body_ok (tab_loop (tab_call (tab_nil _) (E_value_Null p (ent_none _ _))) (E_calc_reduce_L0'1 p fuel (entL_none _ _ _))) rfl ((e_calc_reduce'1 p _ _ _ _ _).trans h)
  · exact hF _ _ _ _ _ h
abbrev Ty_calc_last : Type 1 := Int → Int → ByteArray → Int → Int → ByteArray → (γ : Type) → (Int → Int → ByteArray → Bool → Option γ) → Option γ
def P_calc_last (X : Ty_calc_last) (F : Ent3) : Ent3 := fun a s γ K => match a, s with
  | [AVal.agg [(Dat.int IntKind.i64 v_a0, Own.none), (Dat.int IntKind.i64 v_a1, Own.none), (Dat.str v_a2, Own.none)], AVal.agg [(Dat.int IntKind.i64 v_b0, Own.none), (Dat.int IntKind.i64 v_b1, Own.none), (Dat.str v_b2, Own.none)]], [] => X v_a0 v_a1 v_a2 v_b0 v_b1 v_b2 γ (fun r0 r1 r2 r3 => K ([(AVal.agg [(Dat.int IntKind.i64 r0, Own.none), (Dat.int IntKind.i64 r1, Own.none), (Dat.str r2, Own.none)], Own.none), (AVal.dat (Dat.bool r3), Own.none)], []))
  | a, s => F a s γ K
def T_calc_last (x_value_Compare : Ty_value_Compare) : CallK := (addK noneK 41 (P_value_Compare x_value_Compare none3))
def L_calc_last (x_value_Compare : Ty_value_Compare) : LoopK := noneL
def Sp.B_calc_last (x_value_Compare : Ty_value_Compare) (v_a0 : Int) (v_a1 : Int) (v_a2 : ByteArray) (v_b0 : Int) (v_b1 : Int) (v_b2 : ByteArray) (γ : Type) (K : Int → Int → ByteArray → Bool → Option γ) : Option γ := bif decide (v_a0 = 0) then K v_b0 v_b1 v_b2 true else x_value_Compare v_b0 v_b1 v_b2 v_a0 v_a1 v_a2 γ fun (z8 : Int) => bif decide (0 < z8) then K v_b0 v_b1 v_b2 true else K v_a0 v_a1 v_a2 true
theorem e_calc_last (p : Par) (x_value_Compare : Ty_value_Compare) (v_a0 : Int) (v_a1 : Int) (v_a2 : ByteArray) (v_b0 : Int) (v_b1 : Int) (v_b2 : ByteArray) (γ : Type) (K : List Ent × Sig → Option γ) : evFK (cfg p) (T_calc_last x_value_Compare) (L_calc_last x_value_Compare) 28 [AVal.agg [(Dat.int IntKind.i64 v_a0, Own.none), (Dat.int IntKind.i64 v_a1, Own.none), (Dat.str v_a2, Own.none)], AVal.agg [(Dat.int IntKind.i64 v_b0, Own.none), (Dat.int IntKind.i64 v_b1, Own.none), (Dat.str v_b2, Own.none)]] [] γ K = Sp.B_calc_last x_value_Compare v_a0 v_a1 v_a2 v_b0 v_b1 v_b2 γ (fun r0 r1 r2 r3 => K ([(AVal.agg [(Dat.int IntKind.i64 r0, Own.none), (Dat.int IntKind.i64 r1, Own.none), (Dat.str r2, Own.none)], Own.none), (AVal.dat (Dat.bool r3), Own.none)], [])) := by kernel_rfl
def Sp.calc_last : Ty_calc_last := Sp.B_calc_last Sp.value_Compare
theorem E_calc_last (p : Par) {F : Ent3} (hF : EntOk (cfg p) 28 F) : EntOk (cfg p) 28 (P_calc_last Sp.calc_last F) := by
  intro a s γ K q h
  unfold P_calc_last at h
  split at h
  · exact body_ok (tab_call (tab_nil _) (E_value_Compare p (ent_none _ _))) rfl ((e_calc_last p _ _ _ _ _ _ _ _ _).trans h)
  · exact hF _ _ _ _ _ h
abbrev Ty_calc_reduce_L0'2 : Type 1 := List (List Dat) → Int → Int → Bool → Int → Int → Int → Int → ByteArray → Int → Int → ByteArray → (γ : Type) → (Ex → Int → Bool → Int → Int → Int → Int → ByteArray → Int → Int → ByteArray → Option γ) → Option γ
def P_calc_reduce_L0'2 (X : Ty_calc_reduce_L0'2) (F : Loop3) : Loop3 := fun a s γ K => match a, s with
  | [AVal.clo (Fn.func 28) [] [], AVal.loc 4 0, AVal.loc 7 0, AVal.dat (Dat.sl v_), AVal.dat (Dat.int IntKind.i64 v__1)], ([AVal.dat (Dat.int IntKind.i64 v__2), AVal.dat (Dat.bool v__3), AVal.dat (Dat.int IntKind.i64 v_n), AVal.dat (Dat.int IntKind.i64 v__4), AVal.agg [(Dat.int IntKind.i64 v_box0, Own.none), (Dat.int IntKind.i64 v_box1, Own.none), (Dat.str v_box2, Own.none)], AVal.agg [(Dat.int IntKind.i64 v_box0_1, Own.none), (Dat.int IntKind.i64 v_box1_1, Own.none), (Dat.str v_box2_1, Own.none)]], []) => X v_ v__1 v__2 v__3 v_n v__4 v_box0 v_box1 v_box2 v_box0_1 v_box1_1 v_box2_1 γ (fun e x0 x1 x2 x3 x4 x5 x6 x7 x8 x9 => K (e, ([AVal.dat (Dat.int IntKind.i64 x0), AVal.dat (Dat.bool x1), AVal.dat (Dat.int IntKind.i64 x2), AVal.dat (Dat.int IntKind.i64 x3), AVal.agg [(Dat.int IntKind.i64 x4, Own.none), (Dat.int IntKind.i64 x5, Own.none), (Dat.str x6, Own.none)], AVal.agg [(Dat.int IntKind.i64 x7, Own.none), (Dat.int IntKind.i64 x8, Own.none), (Dat.str x9, Own.none)]], [])))
  | a, s => F a s γ K
def T_calc_reduce_L0'2 (x_calc_last : Ty_calc_last) : CallK := (addK noneK 28 (P_calc_last x_calc_last none3))
def L_calc_reduce_L0'2 (x_calc_last : Ty_calc_last) : LoopK := noneL
def Sp.B_calc_reduce_L0'2 (x_calc_reduce_L0'2 : Ty_calc_reduce_L0'2) (x_calc_last : Ty_calc_last) (v_ : List (List Dat)) (v__1 : Int) (v__2 : Int) (v__3 : Bool) (v_n : Int) (v__4 : Int) (v_box0 : Int) (v_box1 : Int) (v_box2 : ByteArray) (v_box0_1 : Int) (v_box1_1 : Int) (v_box2_1 : ByteArray) (γ : Type) (K : Ex → Int → Bool → Int → Int → Int → Int → ByteArray → Int → Int → ByteArray → Option γ) : Option γ := bif decide (v__4 < v__1) then elemAt v_ v__4 fun (z14 : List Dat) => bif List.length z14 == 3 then cellAt z14 0 fun (z15 : Dat) => Aev.asInt IntKind.i64 z15 fun (z16 : Int) => cellAt z14 1 fun (z17 : Dat) => Aev.asInt IntKind.i64 z17 fun (z18 : Int) => cellAt z14 2 fun (z19 : Dat) => asStr z19 fun (z20 : ByteArray) => bif decide (z16 = 0) then x_calc_reduce_L0'2 v_ v__1 v__2 v__3 v_n (IntKind.wrap IntKind.i64 (v__4 + 1)) v_box0 v_box1 v_box2 v_box0_1 v_box1_1 v_box2_1 γ K else x_calc_last v_box0_1 v_box1_1 v_box2_1 z16 z18 z20 γ fun (z21 z22 : Int) (z23 : ByteArray) (z24 : Bool) => bif !z24 then K Ex.ret 0 false (IntKind.wrap IntKind.i64 (v_n + 1)) v__4 0 0 (bs []) z21 z22 z23 else x_calc_reduce_L0'2 v_ v__1 v__2 v__3 (IntKind.wrap IntKind.i64 (v_n + 1)) (IntKind.wrap IntKind.i64 (v__4 + 1)) v_box0 v_box1 v_box2 z21 z22 z23 γ K else none else K (Ex.exit 0) v__2 v__3 v_n v__4 v_box0 v_box1 v_box2 v_box0_1 v_box1_1 v_box2_1
theorem e_calc_reduce_L0'2 (p : Par) (x_calc_reduce_L0'2 : Ty_calc_reduce_L0'2) (x_calc_last : Ty_calc_last) (v_ : List (List Dat)) (v__1 : Int) (v__2 : Int) (v__3 : Bool) (v_n : Int) (v__4 : Int) (v_box0 : Int) (v_box1 : Int) (v_box2 : ByteArray) (v_box0_1 : Int) (v_box1_1 : Int) (v_box2_1 : ByteArray) (γ : Type) (K : Ex × Vars → Option γ) : roundK (cfg p) (T_calc_reduce_L0'2 x_calc_last) (L_calc_reduce_L0'2 x_calc_last) 32 0 [AVal.clo (Fn.func 28) [] [], AVal.loc 4 0, AVal.loc 7 0, AVal.dat (Dat.sl v_), AVal.dat (Dat.int IntKind.i64 v__1)] ([AVal.dat (Dat.int IntKind.i64 v__2), AVal.dat (Dat.bool v__3), AVal.dat (Dat.int IntKind.i64 v_n), AVal.dat (Dat.int IntKind.i64 v__4), AVal.agg [(Dat.int IntKind.i64 v_box0, Own.none), (Dat.int IntKind.i64 v_box1, Own.none), (Dat.str v_box2, Own.none)], AVal.agg [(Dat.int IntKind.i64 v_box0_1, Own.none), (Dat.int IntKind.i64 v_box1_1, Own.none), (Dat.str v_box2_1, Own.none)]], []) γ (contL (fun v => P_calc_reduce_L0'2 x_calc_reduce_L0'2 noneL3 [AVal.clo (Fn.func 28) [] [], AVal.loc 4 0, AVal.loc 7 0, AVal.dat (Dat.sl v_), AVal.dat (Dat.int IntKind.i64 v__1)] v γ K) K) = Sp.B_calc_reduce_L0'2 x_calc_reduce_L0'2 x_calc_last v_ v__1 v__2 v__3 v_n v__4 v_box0 v_box1 v_box2 v_box0_1 v_box1_1 v_box2_1 γ (fun e x0 x1 x2 x3 x4 x5 x6 x7 x8 x9 => K (e, ([AVal.dat (Dat.int IntKind.i64 x0), AVal.dat (Dat.bool x1), AVal.dat (Dat.int IntKind.i64 x2), AVal.dat (Dat.int IntKind.i64 x3), AVal.agg [(Dat.int IntKind.i64 x4, Own.none), (Dat.int IntKind.i64 x5, Own.none), (Dat.str x6, Own.none)], AVal.agg [(Dat.int IntKind.i64 x7, Own.none), (Dat.int IntKind.i64 x8, Own.none), (Dat.str x9, Own.none)]], []))) := by kernel_rfl
def Sp.calc_reduce_L0'2 : Nat → Ty_calc_reduce_L0'2
  | 0 => fun _ _ _ _ _ _ _ _ _ _ _ _ _ _ => none
  | n + 1 => Sp.B_calc_reduce_L0'2 (Sp.calc_reduce_L0'2 n) Sp.calc_last
theorem E0_calc_reduce_L0'2 (p : Par)   : ∀ n, EntOkL (cfg p) 32 0 (P_calc_reduce_L0'2 (Sp.calc_reduce_L0'2  n) noneL3) := entL_rounds (tab_call (tab_nil _) (E_calc_last p (ent_none _ _))) (by kernel_rfl) (fun c v γ K => by unfold P_calc_reduce_L0'2; split <;> rfl) fun n c v γ K q h => by
  unfold P_calc_reduce_L0'2 at h
  split at h
  · exact (e_calc_reduce_L0'2 p _ _ _ _ _ _ _ _ _ _ _ _ _ _ _ _).trans h
  · cases h
theorem E_calc_reduce_L0'2 (p : Par)   (n : Nat) {F : Loop3} (hF : EntOkL (cfg p) 32 0 F) : EntOkL (cfg p) 32 0 (P_calc_reduce_L0'2 (Sp.calc_reduce_L0'2  n) F) := by
  intro c v γ K q h
  unfold P_calc_reduce_L0'2 at h
  split at h
  · exact E0_calc_reduce_L0'2 p   n _ _ _ _ _ h
  · exact hF _ _ _ _ _ h
abbrev Ty_calc_reduce'2 : Type 1 := List (List Dat) → (γ : Type) → (Int → Int → ByteArray → Int → Bool → Option γ) → Option γ
def P_calc_reduce'2 (X : Ty_calc_reduce'2) (F : Ent3) : Ent3 := fun a s γ K => match a, s with
  | [AVal.dat (Dat.sl v_l), AVal.clo (Fn.func 28) [] []], [] => X v_l γ (fun r0 r1 r2 r3 r4 => K ([(AVal.agg [(Dat.int IntKind.i64 r0, Own.none), (Dat.int IntKind.i64 r1, Own.none), (Dat.str r2, Own.none)], Own.none), (AVal.dat (Dat.int IntKind.i64 r3), Own.none), (AVal.dat (Dat.bool r4), Own.none)], []))
  | a, s => F a s γ K
def T_calc_reduce'2 (x_value_Null : Ty_value_Null) (x_calc_reduce_L0'2 : Ty_calc_reduce_L0'2) : CallK := (addK noneK 38 (P_value_Null x_value_Null none3))
def L_calc_reduce'2 (x_value_Null : Ty_value_Null) (x_calc_reduce_L0'2 : Ty_calc_reduce_L0'2) : LoopK := (addL noneL 32 0 (P_calc_reduce_L0'2 x_calc_reduce_L0'2 noneL3))
def Sp.B_calc_reduce'2 (x_value_Null : Ty_value_Null) (x_calc_reduce_L0'2 : Ty_calc_reduce_L0'2) (v_l : List (List Dat)) (γ : Type) (K : Int → Int → ByteArray → Int → Bool → Option γ) : Option γ := x_value_Null γ fun (z3 z4 : Int) (z5 : ByteArray) => x_calc_reduce_L0'2 v_l (Int.ofNat (List.length v_l)) 0 false 0 0 0 0 (bs []) z3 z4 z5 γ fun (z6 : Ex) (z7 : Int) (z8 : Bool) (z9 z10 z11 z12 : Int) (z13 : ByteArray) (z14 z15 : Int) (z16 : ByteArray) => bif Ex.isExit z6 0 then K z14 z15 z16 z9 true else bif Ex.isRet z6 then K z11 z12 z13 z7 z8 else none
theorem e_calc_reduce'2 (p : Par) (x_value_Null : Ty_value_Null) (x_calc_reduce_L0'2 : Ty_calc_reduce_L0'2) (v_l : List (List Dat)) (γ : Type) (K : List Ent × Sig → Option γ) : evFK (cfg p) (T_calc_reduce'2 x_value_Null x_calc_reduce_L0'2) (L_calc_reduce'2 x_value_Null x_calc_reduce_L0'2) 32 [AVal.dat (Dat.sl v_l), AVal.clo (Fn.func 28) [] []] [] γ K = Sp.B_calc_reduce'2 x_value_Null x_calc_reduce_L0'2 v_l γ (fun r0 r1 r2 r3 r4 => K ([(AVal.agg [(Dat.int IntKind.i64 r0, Own.none), (Dat.int IntKind.i64 r1, Own.none), (Dat.str r2, Own.none)], Own.none), (AVal.dat (Dat.int IntKind.i64 r3), Own.none), (AVal.dat (Dat.bool r4), Own.none)], [])) := by kernel_rfl
def Sp.calc_reduce'2 : Ty_calc_reduce'2 := Sp.B_calc_reduce'2 Sp.value_Null (Sp.calc_reduce_L0'2 fuel)
theorem E_calc_reduce'2 (p : Par) {F : Ent3} (hF : EntOk (cfg p) 32 F) : EntOk (cfg p) 32 (P_calc_reduce'2 Sp.calc_reduce'2 F) := by
  intro a s γ K q h
  unfold P_calc_reduce'2 at h
  split at h
  · exact body_ok (tab_loop (tab_call (tab_nil _) (E_value_Null p (ent_none _ _))) (E_calc_reduce_L0'2 p fuel (entL_none _ _ _))) rfl ((e_calc_reduce'2 p _ _ _ _ _).trans h)
  · exact hF _ _ _ _ _ h
abbrev Ty_calc_Fold : Type 1 := Int → List (List Dat) → (γ : Type) → (Int → Int → ByteArray → Int → Option γ) → Option γ
def P_calc_Fold (X : Ty_calc_Fold) (F : Ent3) : Ent3 := fun a s γ K => match a, s with
  | [AVal.dat (Dat.int IntKind.i64 v_agg), AVal.dat (Dat.sl v_l)], [] => X v_agg v_l γ (fun r0 r1 r2 r3 => K ([(AVal.agg [(Dat.int IntKind.i64 r0, Own.none), (Dat.int IntKind.i64 r1, Own.none), (Dat.str r2, Own.none)], Own.none), (AVal.dat (Dat.int IntKind.i64 r3), Own.none)], []))
  | a, s => F a s γ K
def T_calc_Fold (x_value_Int : Ty_value_Int) (x_calc_reduce : Ty_calc_reduce) (x_calc_reduce'1 : Ty_calc_reduce'1) (x_calc_reduce'2 : Ty_calc_reduce'2) : CallK := (addK (addK noneK 29 (P_value_Int x_value_Int none3)) 32 (P_calc_reduce x_calc_reduce (P_calc_reduce'1 x_calc_reduce'1 (P_calc_reduce'2 x_calc_reduce'2 none3))))
def L_calc_Fold (x_value_Int : Ty_value_Int) (x_calc_reduce : Ty_calc_reduce) (x_calc_reduce'1 : Ty_calc_reduce'1) (x_calc_reduce'2 : Ty_calc_reduce'2) : LoopK := noneL
def Sp.B_calc_Fold (x_value_Int : Ty_value_Int) (x_calc_reduce : Ty_calc_reduce) (x_calc_reduce'1 : Ty_calc_reduce'1) (x_calc_reduce'2 : Ty_calc_reduce'2) (v_agg : Int) (v_l : List (List Dat)) (γ : Type) (K : Int → Int → ByteArray → Int → Option γ) : Option γ := bif decide (v_agg = 1) then x_value_Int (Int.ofNat (List.length v_l)) γ fun (z4 z5 : Int) (z6 : ByteArray) => K z4 z5 z6 0 else bif decide (v_agg = 3) then x_calc_reduce v_l γ fun (z7 z8 : Int) (z9 : ByteArray) (z10 : Int) (z11 : Bool) => bif !z11 then K 0 0 (bs []) 160 else bif decide (v_agg = 2) then x_value_Int z10 γ fun (z12 z13 : Int) (z14 : ByteArray) => K z12 z13 z14 0 else K z7 z8 z9 0 else bif decide (v_agg = 4) then x_calc_reduce'1 v_l γ fun (z15 z16 : Int) (z17 : ByteArray) (z18 : Int) (z19 : Bool) => bif !z19 then K 0 0 (bs []) 160 else bif decide (v_agg = 2) then x_value_Int z18 γ fun (z20 z21 : Int) (z22 : ByteArray) => K z20 z21 z22 0 else K z15 z16 z17 0 else bif decide (v_agg = 5) then bif decide (v_agg = 5) then x_calc_reduce'2 v_l γ fun (z23 z24 : Int) (z25 : ByteArray) (z26 : Int) (z27 : Bool) => bif !z27 then K 0 0 (bs []) 160 else bif decide (v_agg = 2) then x_value_Int z26 γ fun (z28 z29 : Int) (z30 : ByteArray) => K z28 z29 z30 0 else K z23 z24 z25 0 else K 0 0 (bs []) 1 else bif decide (v_agg = 2) then x_calc_reduce'2 v_l γ fun (z31 z32 : Int) (z33 : ByteArray) (z34 : Int) (z35 : Bool) => bif !z35 then K 0 0 (bs []) 160 else bif decide (v_agg = 2) then x_value_Int z34 γ fun (z36 z37 : Int) (z38 : ByteArray) => K z36 z37 z38 0 else K z31 z32 z33 0 else K 0 0 (bs []) 1
theorem e_calc_Fold (p : Par) (x_value_Int : Ty_value_Int) (x_calc_reduce : Ty_calc_reduce) (x_calc_reduce'1 : Ty_calc_reduce'1) (x_calc_reduce'2 : Ty_calc_reduce'2) (v_agg : Int) (v_l : List (List Dat)) (γ : Type) (K : List Ent × Sig → Option γ) : evFK (cfg p) (T_calc_Fold x_value_Int x_calc_reduce x_calc_reduce'1 x_calc_reduce'2) (L_calc_Fold x_value_Int x_calc_reduce x_calc_reduce'1 x_calc_reduce'2) 15 [AVal.dat (Dat.int IntKind.i64 v_agg), AVal.dat (Dat.sl v_l)] [] γ K = Sp.B_calc_Fold x_value_Int x_calc_reduce x_calc_reduce'1 x_calc_reduce'2 v_agg v_l γ (fun r0 r1 r2 r3 => K ([(AVal.agg [(Dat.int IntKind.i64 r0, Own.none), (Dat.int IntKind.i64 r1, Own.none), (Dat.str r2, Own.none)], Own.none), (AVal.dat (Dat.int IntKind.i64 r3), Own.none)], [])) := by kernel_rfl
def Sp.calc_Fold : Ty_calc_Fold := Sp.B_calc_Fold Sp.value_Int Sp.calc_reduce Sp.calc_reduce'1 Sp.calc_reduce'2
theorem E_calc_Fold (p : Par) {F : Ent3} (hF : EntOk (cfg p) 15 F) : EntOk (cfg p) 15 (P_calc_Fold Sp.calc_Fold F) := by
  intro a s γ K q h
  unfold P_calc_Fold at h
  split at h
  · exact body_ok (tab_call (tab_call (tab_nil _) (E_value_Int p (ent_none _ _))) (E_calc_reduce p (E_calc_reduce'1 p (E_calc_reduce'2 p (ent_none _ _))))) rfl ((e_calc_Fold p _ _ _ _ _ _ _ _).trans h)
  · exact hF _ _ _ _ _ h
abbrev Ty_calc_Row_L0 : Type 1 := List (List Dat) → List (List Dat) → Int → List (List Dat) → Int → List (List Dat) → Int → (γ : Type) → (Ex → List (List Dat) → Int → List (List Dat) → Int → Option γ) → Option γ
def P_calc_Row_L0 (X : Ty_calc_Row_L0) (F : Loop3) : Loop3 := fun a s γ K => match a, s with
  | [AVal.dat (Dat.sl v_r), AVal.dat (Dat.sl v_), AVal.dat (Dat.int IntKind.i64 v__1)], ([AVal.dat (Dat.sl v__2), AVal.dat (Dat.int IntKind.i64 v__3), AVal.dat (Dat.sl v_out), AVal.dat (Dat.int IntKind.i64 v__4)], []) => X v_r v_ v__1 v__2 v__3 v_out v__4 γ (fun e x0 x1 x2 x3 => K (e, ([AVal.dat (Dat.sl x0), AVal.dat (Dat.int IntKind.i64 x1), AVal.dat (Dat.sl x2), AVal.dat (Dat.int IntKind.i64 x3)], [])))
  | a, s => F a s γ K
def T_calc_Row_L0 (x_calc_Eval : Ty_calc_Eval) : CallK := (addK noneK 12 (P_calc_Eval x_calc_Eval none3))
def L_calc_Row_L0 (x_calc_Eval : Ty_calc_Eval) : LoopK := noneL
def Sp.B_calc_Row_L0 (x_calc_Row_L0 : Ty_calc_Row_L0) (x_calc_Eval : Ty_calc_Eval) (v_r : List (List Dat)) (v_ : List (List Dat)) (v__1 : Int) (v__2 : List (List Dat)) (v__3 : Int) (v_out : List (List Dat)) (v__4 : Int) (γ : Type) (K : Ex → List (List Dat) → Int → List (List Dat) → Int → Option γ) : Option γ := bif sized v__2 3 then bif sized v_out 3 then bif decide (v__4 < v__1) then elemAt v_ v__4 fun (z9 : List Dat) => bif List.length z9 == 8 then cellAt z9 0 fun (z10 : Dat) => Aev.asInt IntKind.i64 z10 fun (z11 : Int) => cellAt z9 1 fun (z12 : Dat) => Aev.asInt IntKind.i64 z12 fun (z13 : Int) => cellAt z9 2 fun (z14 : Dat) => Aev.asInt IntKind.i64 z14 fun (z15 : Int) => cellAt z9 3 fun (z16 : Dat) => Aev.asInt IntKind.i64 z16 fun (z17 : Int) => cellAt z9 4 fun (z18 : Dat) => asStr z18 fun (z19 : ByteArray) => cellAt z9 5 fun (z20 : Dat) => asStr z20 fun (z21 : ByteArray) => cellAt z9 6 fun (z22 : Dat) => asStr z22 fun (z23 : ByteArray) => cellAt z9 7 fun (z24 : Dat) => asSl z24 fun (z25 : List (List Dat)) => x_calc_Eval z11 z13 z15 z17 z19 z21 z23 z25 v_r γ fun (z26 z27 : Int) (z28 : ByteArray) (z29 : Int) => bif !decide (z29 = 0) then K Ex.ret [] z29 v_out v__4 else bif sized v_out 3 && true && true && decide ((List.length v_out + 1) * 33 ≤ 70368744177664) && true then x_calc_Row_L0 v_r v_ v__1 v__2 v__3 (v_out ++ [[Dat.int IntKind.i64 z26, Dat.int IntKind.i64 z27, Dat.str z28]]) (IntKind.wrap IntKind.i64 (v__4 + 1)) γ K else none else none else K (Ex.exit 0) v__2 v__3 v_out v__4 else none else none
theorem e_calc_Row_L0 (p : Par) (x_calc_Row_L0 : Ty_calc_Row_L0) (x_calc_Eval : Ty_calc_Eval) (v_r : List (List Dat)) (v_ : List (List Dat)) (v__1 : Int) (v__2 : List (List Dat)) (v__3 : Int) (v_out : List (List Dat)) (v__4 : Int) (γ : Type) (K : Ex × Vars → Option γ) : roundK (cfg p) (T_calc_Row_L0 x_calc_Eval) (L_calc_Row_L0 x_calc_Eval) 16 0 [AVal.dat (Dat.sl v_r), AVal.dat (Dat.sl v_), AVal.dat (Dat.int IntKind.i64 v__1)] ([AVal.dat (Dat.sl v__2), AVal.dat (Dat.int IntKind.i64 v__3), AVal.dat (Dat.sl v_out), AVal.dat (Dat.int IntKind.i64 v__4)], []) γ (contL (fun v => P_calc_Row_L0 x_calc_Row_L0 noneL3 [AVal.dat (Dat.sl v_r), AVal.dat (Dat.sl v_), AVal.dat (Dat.int IntKind.i64 v__1)] v γ K) K) = Sp.B_calc_Row_L0 x_calc_Row_L0 x_calc_Eval v_r v_ v__1 v__2 v__3 v_out v__4 γ (fun e x0 x1 x2 x3 => K (e, ([AVal.dat (Dat.sl x0), AVal.dat (Dat.int IntKind.i64 x1), AVal.dat (Dat.sl x2), AVal.dat (Dat.int IntKind.i64 x3)], []))) := by kernel_rfl
def Sp.calc_Row_L0 : Nat → Ty_calc_Row_L0
  | 0 => fun _ _ _ _ _ _ _ _ _ => none
  | n + 1 => Sp.B_calc_Row_L0 (Sp.calc_Row_L0 n) Sp.calc_Eval
theorem E0_calc_Row_L0 (p : Par)   : ∀ n, EntOkL (cfg p) 16 0 (P_calc_Row_L0 (Sp.calc_Row_L0  n) noneL3) := entL_rounds (tab_call (tab_nil _) (E_calc_Eval p (ent_none _ _))) (by kernel_rfl) (fun c v γ K => by unfold P_calc_Row_L0; split <;> rfl) fun n c v γ K q h => by
  unfold P_calc_Row_L0 at h
  split at h
  · exact (e_calc_Row_L0 p _ _ _ _ _ _ _ _ _ _ _).trans h
  · cases h
theorem E_calc_Row_L0 (p : Par)   (n : Nat) {F : Loop3} (hF : EntOkL (cfg p) 16 0 F) : EntOkL (cfg p) 16 0 (P_calc_Row_L0 (Sp.calc_Row_L0  n) F) := by
  intro c v γ K q h
  unfold P_calc_Row_L0 at h
  split at h
  · exact E0_calc_Row_L0 p   n _ _ _ _ _ h
  · exact hF _ _ _ _ _ h
abbrev Ty_calc_Row : Type 1 := List (List Dat) → List (List Dat) → (γ : Type) → (List (List Dat) → Int → Option γ) → Option γ
def P_calc_Row (X : Ty_calc_Row) (F : Ent3) : Ent3 := fun a s γ K => match a, s with
  | [AVal.dat (Dat.sl v_l), AVal.dat (Dat.sl v_r)], [] => X v_l v_r γ (fun r0 r1 => K ([(AVal.dat (Dat.sl r0), Own.none), (AVal.dat (Dat.int IntKind.i64 r1), Own.none)], []))
  | a, s => F a s γ K
def T_calc_Row (x_calc_Row_L0 : Ty_calc_Row_L0) : CallK := noneK
def L_calc_Row (x_calc_Row_L0 : Ty_calc_Row_L0) : LoopK := (addL noneL 16 0 (P_calc_Row_L0 x_calc_Row_L0 noneL3))
def Sp.B_calc_Row (x_calc_Row_L0 : Ty_calc_Row_L0) (v_l : List (List Dat)) (v_r : List (List Dat)) (γ : Type) (K : List (List Dat) → Int → Option γ) : Option γ := x_calc_Row_L0 v_r v_l (Int.ofNat (List.length v_l)) [] 0 [] 0 γ fun (z4 : Ex) (z5 : List (List Dat)) (z6 : Int) (z7 : List (List Dat)) (z8 : Int) => bif sized z5 3 then bif sized z7 3 then bif Ex.isExit z4 0 then K z7 0 else bif Ex.isRet z4 then K z5 z6 else none else none else none
theorem e_calc_Row (p : Par) (x_calc_Row_L0 : Ty_calc_Row_L0) (v_l : List (List Dat)) (v_r : List (List Dat)) (γ : Type) (K : List Ent × Sig → Option γ) : evFK (cfg p) (T_calc_Row x_calc_Row_L0) (L_calc_Row x_calc_Row_L0) 16 [AVal.dat (Dat.sl v_l), AVal.dat (Dat.sl v_r)] [] γ K = Sp.B_calc_Row x_calc_Row_L0 v_l v_r γ (fun r0 r1 => K ([(AVal.dat (Dat.sl r0), Own.none), (AVal.dat (Dat.int IntKind.i64 r1), Own.none)], [])) := by kernel_rfl
def Sp.calc_Row : Ty_calc_Row := Sp.B_calc_Row (Sp.calc_Row_L0 fuel)
theorem E_calc_Row (p : Par) {F : Ent3} (hF : EntOk (cfg p) 16 F) : EntOk (cfg p) 16 (P_calc_Row Sp.calc_Row F) := by
  intro a s γ K q h
  unfold P_calc_Row at h
  split at h
  · exact body_ok (tab_loop (tab_nil _) (E_calc_Row_L0 p fuel (entL_none _ _ _))) rfl ((e_calc_Row p _ _ _ _ _).trans h)
  · exact hF _ _ _ _ _ h
abbrev Ty_ref01_Bool : Type 1 := Bool → (γ : Type) → (Int → Int → ByteArray → Option γ) → Option γ
def P_ref01_Bool (X : Ty_ref01_Bool) (F : Ent3) : Ent3 := fun a s γ K => match a, s with
  | [AVal.dat (Dat.bool v_is)], [] => X v_is γ (fun r0 r1 r2 => K ([(AVal.agg [(Dat.int IntKind.i64 r0, Own.none), (Dat.int IntKind.i64 r1, Own.none), (Dat.str r2, Own.none)], Own.none)], []))
  | a, s => F a s γ K
def T_ref01_Bool  : CallK := noneK
def L_ref01_Bool  : LoopK := noneL
def Sp.B_ref01_Bool  (v_is : Bool) (γ : Type) (K : Int → Int → ByteArray → Option γ) : Option γ := bif v_is then K 1 1 (bs []) else K 1 0 (bs [])
theorem e_ref01_Bool (p : Par)  (v_is : Bool) (γ : Type) (K : List Ent × Sig → Option γ) : evFK (cfg p) (T_ref01_Bool ) (L_ref01_Bool ) 17 [AVal.dat (Dat.bool v_is)] [] γ K = Sp.B_ref01_Bool  v_is γ (fun r0 r1 r2 => K ([(AVal.agg [(Dat.int IntKind.i64 r0, Own.none), (Dat.int IntKind.i64 r1, Own.none), (Dat.str r2, Own.none)], Own.none)], [])) := by kernel_rfl
def Sp.ref01_Bool : Ty_ref01_Bool := Sp.B_ref01_Bool 
theorem E_ref01_Bool (p : Par) {F : Ent3} (hF : EntOk (cfg p) 17 F) : EntOk (cfg p) 17 (P_ref01_Bool Sp.ref01_Bool F) := by
  intro a s γ K q h
  unfold P_ref01_Bool at h
  split at h
  · exact body_ok (tab_nil _) rfl ((e_ref01_Bool p  _ _ _).trans h)
  · exact hF _ _ _ _ _ h
abbrev Ty_law16_lives : Type 1 := (γ : Type) → (Bool → Option γ) → Option γ
def P_law16_lives (X : Ty_law16_lives) (F : Ent3) : Ent3 := fun a s γ K => match a, s with
  | [], [] => X  γ (fun r0 => K ([(AVal.dat (Dat.bool r0), Own.none)], []))
  | a, s => F a s γ K
def T_law16_lives (x_ref01_Int : Ty_ref01_Int) (x_law16_num : Ty_law16_num) (x_law16_op : Ty_law16_op) (x_calc_Eval : Ty_calc_Eval) (x_calc_Holds : Ty_calc_Holds) (x_calc_Fold : Ty_calc_Fold) (x_calc_Row : Ty_calc_Row) (x_ref01_Bool : Ty_ref01_Bool) (x_calc_Errs : Ty_calc_Errs) : CallK := (addK (addK (addK (addK (addK (addK (addK (addK (addK noneK 11 (P_ref01_Int x_ref01_Int none3)) 14 (P_law16_num x_law16_num none3)) 13 (P_law16_op x_law16_op none3)) 12 (P_calc_Eval x_calc_Eval none3)) 7 (P_calc_Holds x_calc_Holds none3)) 15 (P_calc_Fold x_calc_Fold none3)) 16 (P_calc_Row x_calc_Row none3)) 17 (P_ref01_Bool x_ref01_Bool none3)) 18 (P_calc_Errs x_calc_Errs none3))
def L_law16_lives (x_ref01_Int : Ty_ref01_Int) (x_law16_num : Ty_law16_num) (x_law16_op : Ty_law16_op) (x_calc_Eval : Ty_calc_Eval) (x_calc_Holds : Ty_calc_Holds) (x_calc_Fold : Ty_calc_Fold) (x_calc_Row : Ty_calc_Row) (x_ref01_Bool : Ty_ref01_Bool) (x_calc_Errs : Ty_calc_Errs) : LoopK := noneL
def Sp.B_law16_lives (x_ref01_Int : Ty_ref01_Int) (x_law16_num : Ty_law16_num) (x_law16_op : Ty_law16_op) (x_calc_Eval : Ty_calc_Eval) (x_calc_Holds : Ty_calc_Holds) (x_calc_Fold : Ty_calc_Fold) (x_calc_Row : Ty_calc_Row) (x_ref01_Bool : Ty_ref01_Bool) (x_calc_Errs : Ty_calc_Errs)  (γ : Type) (K : Bool → Option γ) : Option γ := x_ref01_Int (-7) γ fun (z2 z3 : Int) (z4 : ByteArray) => x_law16_num 2 γ fun (z5 z6 z7 z8 : Int) (z9 z10 z11 : ByteArray) (z12 : List (List Dat)) => x_law16_op 13 2 1 0 0 (bs []) (bs []) (bs [97]) [] z5 z6 z7 z8 z9 z10 z11 z12 γ fun (z13 z14 z15 z16 : Int) (z17 z18 z19 : ByteArray) (z20 : List (List Dat)) => x_calc_Eval z13 z14 z15 z16 z17 z18 z19 z20 [[Dat.int IntKind.i64 0, Dat.int IntKind.i64 0, Dat.str (bs [])], [Dat.int IntKind.i64 z2, Dat.int IntKind.i64 z3, Dat.str z4]] γ fun (z21 z22 : Int) (z23 : ByteArray) (z24 : Int) => x_law16_num 2 γ fun (z25 z26 z27 z28 : Int) (z29 z30 z31 : ByteArray) (z32 : List (List Dat)) => x_law16_op 14 2 1 0 0 (bs []) (bs []) (bs [97]) [] z25 z26 z27 z28 z29 z30 z31 z32 γ fun (z33 z34 z35 z36 : Int) (z37 z38 z39 : ByteArray) (z40 : List (List Dat)) => x_calc_Eval z33 z34 z35 z36 z37 z38 z39 z40 [[Dat.int IntKind.i64 0, Dat.int IntKind.i64 0, Dat.str (bs [])], [Dat.int IntKind.i64 z2, Dat.int IntKind.i64 z3, Dat.str z4]] γ fun (z41 z42 : Int) (z43 : ByteArray) (z44 : Int) => x_law16_num 0 γ fun (z45 z46 z47 z48 : Int) (z49 z50 z51 : ByteArray) (z52 : List (List Dat)) => x_law16_op 13 2 1 0 0 (bs []) (bs []) (bs [97]) [] z45 z46 z47 z48 z49 z50 z51 z52 γ fun (z53 z54 z55 z56 : Int) (z57 z58 z59 : ByteArray) (z60 : List (List Dat)) => x_calc_Eval z53 z54 z55 z56 z57 z58 z59 z60 [[Dat.int IntKind.i64 0, Dat.int IntKind.i64 0, Dat.str (bs [])], [Dat.int IntKind.i64 z2, Dat.int IntKind.i64 z3, Dat.str z4]] γ fun (z61 z62 : Int) (z63 : ByteArray) (z64 : Int) => x_law16_num 1 γ fun (z65 z66 z67 z68 : Int) (z69 z70 z71 : ByteArray) (z72 : List (List Dat)) => x_law16_num 0 γ fun (z73 z74 z75 z76 : Int) (z77 z78 z79 : ByteArray) (z80 : List (List Dat)) => x_law16_op 13 z65 z66 z67 z68 z69 z70 z71 z72 z73 z74 z75 z76 z77 z78 z79 z80 γ fun (z81 z82 z83 z84 : Int) (z85 z86 z87 : ByteArray) (z88 : List (List Dat)) => x_law16_num 1 γ fun (z89 z90 z91 z92 : Int) (z93 z94 z95 : ByteArray) (z96 : List (List Dat)) => x_law16_op 4 z81 z82 z83 z84 z85 z86 z87 z88 z89 z90 z91 z92 z93 z94 z95 z96 γ fun (z97 z98 z99 z100 : Int) (z101 z102 z103 : ByteArray) (z104 : List (List Dat)) => x_law16_num 2 γ fun (z105 z106 z107 z108 : Int) (z109 z110 z111 : ByteArray) (z112 : List (List Dat)) => x_law16_num 1 γ fun (z113 z114 z115 z116 : Int) (z117 z118 z119 : ByteArray) (z120 : List (List Dat)) => x_law16_op 6 z105 z106 z107 z108 z109 z110 z111 z112 z113 z114 z115 z116 z117 z118 z119 z120 γ fun (z121 z122 z123 z124 : Int) (z125 z126 z127 : ByteArray) (z128 : List (List Dat)) => x_law16_op 2 z121 z122 z123 z124 z125 z126 z127 z128 z97 z98 z99 z100 z101 z102 z103 z104 γ fun (z129 z130 z131 z132 : Int) (z133 z134 z135 : ByteArray) (z136 : List (List Dat)) => x_calc_Eval z129 z130 z131 z132 z133 z134 z135 z136 [[Dat.int IntKind.i64 0, Dat.int IntKind.i64 0, Dat.str (bs [])], [Dat.int IntKind.i64 z2, Dat.int IntKind.i64 z3, Dat.str z4]] γ fun (z137 z138 : Int) (z139 : ByteArray) (z140 : Int) => x_law16_op 2 z97 z98 z99 z100 z101 z102 z103 z104 z121 z122 z123 z124 z125 z126 z127 z128 γ fun (z141 z142 z143 z144 : Int) (z145 z146 z147 : ByteArray) (z148 : List (List Dat)) => x_calc_Holds z141 z142 z143 z144 z145 z146 z147 z148 [[Dat.int IntKind.i64 0, Dat.int IntKind.i64 0, Dat.str (bs [])], [Dat.int IntKind.i64 z2, Dat.int IntKind.i64 z3, Dat.str z4]] γ fun (z149 : Bool) (z150 : Int) => x_calc_Holds z97 z98 z99 z100 z101 z102 z103 z104 [[Dat.int IntKind.i64 0, Dat.int IntKind.i64 0, Dat.str (bs [])], [Dat.int IntKind.i64 z2, Dat.int IntKind.i64 z3, Dat.str z4]] γ fun (z151 : Bool) (z152 : Int) => x_ref01_Int 9 γ fun (z153 z154 : Int) (z155 : ByteArray) => x_calc_Fold 3 [[Dat.int IntKind.i64 z2, Dat.int IntKind.i64 z3, Dat.str z4], [Dat.int IntKind.i64 0, Dat.int IntKind.i64 0, Dat.str (bs [])], [Dat.int IntKind.i64 z153, Dat.int IntKind.i64 z154, Dat.str z155]] γ fun (z156 z157 : Int) (z158 : ByteArray) (z159 : Int) => x_law16_num 3 γ fun (z160 z161 z162 z163 : Int) (z164 z165 z166 : ByteArray) (z167 : List (List Dat)) => x_calc_Row [[Dat.int IntKind.i64 2, Dat.int IntKind.i64 1, Dat.int IntKind.i64 0, Dat.int IntKind.i64 0, Dat.str (bs []), Dat.str (bs []), Dat.str (bs [97]), Dat.sl []], [Dat.int IntKind.i64 z160, Dat.int IntKind.i64 z161, Dat.int IntKind.i64 z162, Dat.int IntKind.i64 z163, Dat.str z164, Dat.str z165, Dat.str z166, Dat.sl z167]] [[Dat.int IntKind.i64 0, Dat.int IntKind.i64 0, Dat.str (bs [])], [Dat.int IntKind.i64 z2, Dat.int IntKind.i64 z3, Dat.str z4]] γ fun (z168 : List (List Dat)) (z169 : Int) => x_calc_Eval 4 1 0 0 (bs []) (bs []) (bs []) [] [[Dat.int IntKind.i64 0, Dat.int IntKind.i64 0, Dat.str (bs [])], [Dat.int IntKind.i64 z2, Dat.int IntKind.i64 z3, Dat.str z4]] γ fun (z170 z171 : Int) (z172 : ByteArray) (z173 : Int) => bif decide (z24 = 0) then bif decide (z22 = -3) then bif decide (z44 = 0) then bif decide (z42 = -1) then bif decide (z64 = 160) then bif decide (z140 = 0) then x_ref01_Bool false γ fun (z174 z175 : Int) (z176 : ByteArray) => bif decide (z137 = z174) && (decide (z138 = z175) && (decide (z139 = z176) && true)) then bif decide (z150 = 0) then bif !z149 then bif decide (z152 = 160) then bif decide (z159 = 0) then bif decide (z157 = 2) then bif decide (z169 = 0) then bif decide (Int.ofNat (List.length z168) = 2) then elemAt z168 1 fun (z177 : List Dat) => bif List.length z177 == 3 then cellAt (List.drop 1 z177) 0 fun (z178 : Dat) => Aev.asInt IntKind.i64 z178 fun (z179 : Int) => bif decide (z179 = 3) then bif decide (z173 = 1) then x_calc_Errs z97 z98 z99 z100 z101 z102 z103 z104 γ fun (z180 : Bool) => bif z180 then x_calc_Errs z121 z122 z123 z124 z125 z126 z127 z128 γ fun (z181 : Bool) => K !z181 else K false else K false else K false else none else K false else K false else K false else K false else K false else K false else K false else K false else K false else K false else K false else K false else K false else K false
theorem e_law16_lives (p : Par) (x_ref01_Int : Ty_ref01_Int) (x_law16_num : Ty_law16_num) (x_law16_op : Ty_law16_op) (x_calc_Eval : Ty_calc_Eval) (x_calc_Holds : Ty_calc_Holds) (x_calc_Fold : Ty_calc_Fold) (x_calc_Row : Ty_calc_Row) (x_ref01_Bool : Ty_ref01_Bool) (x_calc_Errs : Ty_calc_Errs)  (γ : Type) (K : List Ent × Sig → Option γ) : evFK (cfg p) (T_law16_lives x_ref01_Int x_law16_num x_law16_op x_calc_Eval x_calc_Holds x_calc_Fold x_calc_Row x_ref01_Bool x_calc_Errs) (L_law16_lives x_ref01_Int x_law16_num x_law16_op x_calc_Eval x_calc_Holds x_calc_Fold x_calc_Row x_ref01_Bool x_calc_Errs) 5 [] [] γ K = Sp.B_law16_lives x_ref01_Int x_law16_num x_law16_op x_calc_Eval x_calc_Holds x_calc_Fold x_calc_Row x_ref01_Bool x_calc_Errs  γ (fun r0 => K ([(AVal.dat (Dat.bool r0), Own.none)], [])) := by kernel_rfl
def Sp.law16_lives : Ty_law16_lives := Sp.B_law16_lives Sp.ref01_Int Sp.law16_num Sp.law16_op Sp.calc_Eval Sp.calc_Holds Sp.calc_Fold Sp.calc_Row Sp.ref01_Bool Sp.calc_Errs
theorem E_law16_lives (p : Par) {F : Ent3} (hF : EntOk (cfg p) 5 F) : EntOk (cfg p) 5 (P_law16_lives Sp.law16_lives F) := by
  intro a s γ K q h
  unfold P_law16_lives at h
  split at h
  · exact body_ok (tab_call (tab_call (tab_call (tab_call (tab_call (tab_call (tab_call (tab_call (tab_call (tab_nil _) (E_ref01_Int p (ent_none _ _))) (E_law16_num p (ent_none _ _))) (E_law16_op p (ent_none _ _))) (E_calc_Eval p (ent_none _ _))) (E_calc_Holds p (ent_none _ _))) (E_calc_Fold p (ent_none _ _))) (E_calc_Row p (ent_none _ _))) (E_ref01_Bool p (ent_none _ _))) (E_calc_Errs p (ent_none _ _))) rfl ((e_law16_lives p _ _ _ _ _ _ _ _ _ _ _ ).trans h)
  · exact hF _ _ _ _ _ h
abbrev Ty_ref10_large : Type 1 := Int → Int → Int → Int → ByteArray → ByteArray → ByteArray → List (List Dat) → Int → Int → (γ : Type) → (Bool → Int → Option γ) → Option γ
def P_ref10_large (X : Ty_ref10_large) (F : Ent3) : Ent3 := fun a s γ K => match a, s with
  | [AVal.agg [(Dat.int IntKind.i64 v_e0, Own.none), (Dat.int IntKind.i64 v_e1, Own.none), (Dat.int IntKind.i64 v_e2, Own.none), (Dat.int IntKind.i64 v_e3, Own.none), (Dat.str v_e4, Own.none), (Dat.str v_e5, Own.none), (Dat.str v_e6, Own.none), (Dat.sl v_e7, Own.none)], AVal.dat (Dat.int IntKind.i64 v_deep), AVal.ref 0 0], [Box.cells [AVal.dat (Dat.int IntKind.i64 b)]] => X v_e0 v_e1 v_e2 v_e3 v_e4 v_e5 v_e6 v_e7 v_deep b γ (fun r0 r1 => K ([(AVal.dat (Dat.bool r0), Own.none)], [Box.cells [AVal.dat (Dat.int IntKind.i64 r1)]]))
  | a, s => F a s γ K
abbrev Ty_ref10_large_L0 : Type 1 := Int → Bool → Int → Int → Int → Int → Int → ByteArray → ByteArray → ByteArray → List (List Dat) → Int → (γ : Type) → (Ex → Bool → Int → Int → Int → Int → Int → ByteArray → ByteArray → ByteArray → List (List Dat) → Int → Option γ) → Option γ
def P_ref10_large_L0 (X : Ty_ref10_large_L0) (F : Loop3) : Loop3 := fun a s γ K => match a, s with
  | [AVal.dat (Dat.int IntKind.i64 v_deep), AVal.ref 0 0, AVal.loc 3 0], ([AVal.dat (Dat.bool v_), AVal.dat (Dat.int IntKind.i64 v_i), AVal.agg [(Dat.int IntKind.i64 v_box0, Own.none), (Dat.int IntKind.i64 v_box1, Own.none), (Dat.int IntKind.i64 v_box2, Own.none), (Dat.int IntKind.i64 v_box3, Own.none), (Dat.str v_box4, Own.none), (Dat.str v_box5, Own.none), (Dat.str v_box6, Own.none), (Dat.sl v_box7, Own.none)]], [Box.cells [AVal.dat (Dat.int IntKind.i64 b)]]) => X v_deep v_ v_i v_box0 v_box1 v_box2 v_box3 v_box4 v_box5 v_box6 v_box7 b γ (fun e x0 x1 x2 x3 x4 x5 x6 x7 x8 x9 x10 => K (e, ([AVal.dat (Dat.bool x0), AVal.dat (Dat.int IntKind.i64 x1), AVal.agg [(Dat.int IntKind.i64 x2, Own.none), (Dat.int IntKind.i64 x3, Own.none), (Dat.int IntKind.i64 x4, Own.none), (Dat.int IntKind.i64 x5, Own.none), (Dat.str x6, Own.none), (Dat.str x7, Own.none), (Dat.str x8, Own.none), (Dat.sl x9, Own.none)]], [Box.cells [AVal.dat (Dat.int IntKind.i64 x10)]])))
  | a, s => F a s γ K
def T_ref10_large_L0 (x_ref10_large : Ty_ref10_large) : CallK := (addK noneK 19 (P_ref10_large x_ref10_large none3))
def L_ref10_large_L0 (x_ref10_large : Ty_ref10_large) : LoopK := noneL
def Sp.B_ref10_large_L0 (x_ref10_large_L0 : Ty_ref10_large_L0) (x_ref10_large : Ty_ref10_large) (v_deep : Int) (v_ : Bool) (v_i : Int) (v_box0 : Int) (v_box1 : Int) (v_box2 : Int) (v_box3 : Int) (v_box4 : ByteArray) (v_box5 : ByteArray) (v_box6 : ByteArray) (v_box7 : List (List Dat)) (b : Int) (γ : Type) (K : Ex → Bool → Int → Int → Int → Int → Int → ByteArray → ByteArray → ByteArray → List (List Dat) → Int → Option γ) : Option γ := bif decide (v_i < Int.ofNat (List.length v_box7)) then elemAt v_box7 v_i fun (z14 : List Dat) => bif List.length z14 == 8 then cellAt z14 0 fun (z15 : Dat) => Aev.asInt IntKind.i64 z15 fun (z16 : Int) => cellAt z14 1 fun (z17 : Dat) => Aev.asInt IntKind.i64 z17 fun (z18 : Int) => cellAt z14 2 fun (z19 : Dat) => Aev.asInt IntKind.i64 z19 fun (z20 : Int) => cellAt z14 3 fun (z21 : Dat) => Aev.asInt IntKind.i64 z21 fun (z22 : Int) => cellAt z14 4 fun (z23 : Dat) => asStr z23 fun (z24 : ByteArray) => cellAt z14 5 fun (z25 : Dat) => asStr z25 fun (z26 : ByteArray) => cellAt z14 6 fun (z27 : Dat) => asStr z27 fun (z28 : ByteArray) => cellAt z14 7 fun (z29 : Dat) => asSl z29 fun (z30 : List (List Dat)) => x_ref10_large z16 z18 z20 z22 z24 z26 z28 z30 (IntKind.wrap IntKind.i64 (v_deep + 1)) b γ fun (z31 : Bool) (z32 : Int) => bif z31 then K Ex.ret true v_i v_box0 v_box1 v_box2 v_box3 v_box4 v_box5 v_box6 v_box7 z32 else x_ref10_large_L0 v_deep v_ (IntKind.wrap IntKind.i64 (v_i + 1)) v_box0 v_box1 v_box2 v_box3 v_box4 v_box5 v_box6 v_box7 z32 γ K else none else K (Ex.exit 0) v_ v_i v_box0 v_box1 v_box2 v_box3 v_box4 v_box5 v_box6 v_box7 b
theorem e_ref10_large_L0 (p : Par) (x_ref10_large_L0 : Ty_ref10_large_L0) (x_ref10_large : Ty_ref10_large) (v_deep : Int) (v_ : Bool) (v_i : Int) (v_box0 : Int) (v_box1 : Int) (v_box2 : Int) (v_box3 : Int) (v_box4 : ByteArray) (v_box5 : ByteArray) (v_box6 : ByteArray) (v_box7 : List (List Dat)) (b : Int) (γ : Type) (K : Ex × Vars → Option γ) : roundK (cfg p) (T_ref10_large_L0 x_ref10_large) (L_ref10_large_L0 x_ref10_large) 19 0 [AVal.dat (Dat.int IntKind.i64 v_deep), AVal.ref 0 0, AVal.loc 3 0] ([AVal.dat (Dat.bool v_), AVal.dat (Dat.int IntKind.i64 v_i), AVal.agg [(Dat.int IntKind.i64 v_box0, Own.none), (Dat.int IntKind.i64 v_box1, Own.none), (Dat.int IntKind.i64 v_box2, Own.none), (Dat.int IntKind.i64 v_box3, Own.none), (Dat.str v_box4, Own.none), (Dat.str v_box5, Own.none), (Dat.str v_box6, Own.none), (Dat.sl v_box7, Own.none)]], [Box.cells [AVal.dat (Dat.int IntKind.i64 b)]]) γ (contL (fun v => P_ref10_large_L0 x_ref10_large_L0 noneL3 [AVal.dat (Dat.int IntKind.i64 v_deep), AVal.ref 0 0, AVal.loc 3 0] v γ K) K) = Sp.B_ref10_large_L0 x_ref10_large_L0 x_ref10_large v_deep v_ v_i v_box0 v_box1 v_box2 v_box3 v_box4 v_box5 v_box6 v_box7 b γ (fun e x0 x1 x2 x3 x4 x5 x6 x7 x8 x9 x10 => K (e, ([AVal.dat (Dat.bool x0), AVal.dat (Dat.int IntKind.i64 x1), AVal.agg [(Dat.int IntKind.i64 x2, Own.none), (Dat.int IntKind.i64 x3, Own.none), (Dat.int IntKind.i64 x4, Own.none), (Dat.int IntKind.i64 x5, Own.none), (Dat.str x6, Own.none), (Dat.str x7, Own.none), (Dat.str x8, Own.none), (Dat.sl x9, Own.none)]], [Box.cells [AVal.dat (Dat.int IntKind.i64 x10)]]))) := by kernel_rfl
def T_ref10_large (x_ref10_large_L0 : Ty_ref10_large_L0) : CallK := noneK
def L_ref10_large (x_ref10_large_L0 : Ty_ref10_large_L0) : LoopK := (addL noneL 19 0 (P_ref10_large_L0 x_ref10_large_L0 noneL3))
def Sp.B_ref10_large (x_ref10_large_L0 : Ty_ref10_large_L0) (v_e0 : Int) (v_e1 : Int) (v_e2 : Int) (v_e3 : Int) (v_e4 : ByteArray) (v_e5 : ByteArray) (v_e6 : ByteArray) (v_e7 : List (List Dat)) (v_deep : Int) (b : Int) (γ : Type) (K : Bool → Int → Option γ) : Option γ := bif decide (60 < v_deep) then K true (IntKind.wrap IntKind.i64 (b + 1)) else bif decide (1000 < IntKind.wrap IntKind.i64 (b + 1)) then K true (IntKind.wrap IntKind.i64 (b + 1)) else bif decide (200 < Int.ofNat (ByteArray.size v_e5)) then K true (IntKind.wrap IntKind.i64 (b + 1)) else bif decide (200 < Int.ofNat (ByteArray.size v_e6)) then K true (IntKind.wrap IntKind.i64 (b + 1)) else bif decide (500 < Int.ofNat (ByteArray.size v_e4)) then K true (IntKind.wrap IntKind.i64 (b + 1)) else x_ref10_large_L0 v_deep false 0 v_e0 v_e1 v_e2 v_e3 v_e4 v_e5 v_e6 v_e7 (IntKind.wrap IntKind.i64 (b + 1)) γ fun (z12 : Ex) (z13 : Bool) (z14 z15 z16 z17 z18 : Int) (z19 z20 z21 : ByteArray) (z22 : List (List Dat)) (z23 : Int) => bif Ex.isExit z12 0 then K false z23 else bif Ex.isRet z12 then K z13 z23 else none
theorem e_ref10_large (p : Par) (x_ref10_large_L0 : Ty_ref10_large_L0) (v_e0 : Int) (v_e1 : Int) (v_e2 : Int) (v_e3 : Int) (v_e4 : ByteArray) (v_e5 : ByteArray) (v_e6 : ByteArray) (v_e7 : List (List Dat)) (v_deep : Int) (b : Int) (γ : Type) (K : List Ent × Sig → Option γ) : evFK (cfg p) (T_ref10_large x_ref10_large_L0) (L_ref10_large x_ref10_large_L0) 19 [AVal.agg [(Dat.int IntKind.i64 v_e0, Own.none), (Dat.int IntKind.i64 v_e1, Own.none), (Dat.int IntKind.i64 v_e2, Own.none), (Dat.int IntKind.i64 v_e3, Own.none), (Dat.str v_e4, Own.none), (Dat.str v_e5, Own.none), (Dat.str v_e6, Own.none), (Dat.sl v_e7, Own.none)], AVal.dat (Dat.int IntKind.i64 v_deep), AVal.ref 0 0] [Box.cells [AVal.dat (Dat.int IntKind.i64 b)]] γ K = Sp.B_ref10_large x_ref10_large_L0 v_e0 v_e1 v_e2 v_e3 v_e4 v_e5 v_e6 v_e7 v_deep b γ (fun r0 r1 => K ([(AVal.dat (Dat.bool r0), Own.none)], [Box.cells [AVal.dat (Dat.int IntKind.i64 r1)]])) := by kernel_rfl
def Sp.ref10_large_L0 (R_ref10_large : Ty_ref10_large) : Nat → Ty_ref10_large_L0
  | 0 => fun _ _ _ _ _ _ _ _ _ _ _ _ _ _ => none
  | n + 1 => Sp.B_ref10_large_L0 (Sp.ref10_large_L0 R_ref10_large n) R_ref10_large
theorem E0_ref10_large_L0 (p : Par) (R_ref10_large : Ty_ref10_large) (h_ref10_large : ∀ {F : Ent3}, EntOk (cfg p) 19 F → EntOk (cfg p) 19 (P_ref10_large R_ref10_large F)) : ∀ n, EntOkL (cfg p) 19 0 (P_ref10_large_L0 (Sp.ref10_large_L0 R_ref10_large n) noneL3) := entL_rounds (tab_call (tab_nil _) (h_ref10_large (ent_none _ _))) (by kernel_rfl) (fun c v γ K => by unfold P_ref10_large_L0; split <;> rfl) fun n c v γ K q h => by
  unfold P_ref10_large_L0 at h
  split at h
  · exact (e_ref10_large_L0 p _ _ _ _ _ _ _ _ _ _ _ _ _ _ _ _).trans h
  · cases h
theorem E_ref10_large_L0 (p : Par) (R_ref10_large : Ty_ref10_large) (h_ref10_large : ∀ {F : Ent3}, EntOk (cfg p) 19 F → EntOk (cfg p) 19 (P_ref10_large R_ref10_large F)) (n : Nat) {F : Loop3} (hF : EntOkL (cfg p) 19 0 F) : EntOkL (cfg p) 19 0 (P_ref10_large_L0 (Sp.ref10_large_L0 R_ref10_large n) F) := by
  intro c v γ K q h
  unfold P_ref10_large_L0 at h
  split at h
  · exact E0_ref10_large_L0 p R_ref10_large h_ref10_large n _ _ _ _ _ h
  · exact hF _ _ _ _ _ h
def Sp.ref10_large : Nat → Ty_ref10_large
  | 0 => fun _ _ _ _ _ _ _ _ _ _ _ _ => none
  | n + 1 => Sp.B_ref10_large (Sp.ref10_large_L0 (Sp.ref10_large n) fuel)
theorem G89_ok (p : Par) (n : Nat) : (∀ {F : Ent3}, EntOk (cfg p) 19 F → EntOk (cfg p) 19 (P_ref10_large (Sp.ref10_large n) F)) := by
  induction n with
  | zero =>
    refine ?_
    · intro F hF a s γ K q h
      unfold P_ref10_large at h
      split at h
      · cases h
      · exact hF _ _ _ _ _ h
  | succ n ih =>
    refine ?_
    · intro F hF a s γ K q h
      unfold P_ref10_large at h
      split at h
      · exact body_ok (tab_loop (tab_nil _) (E_ref10_large_L0 p (Sp.ref10_large n) ih fuel (entL_none _ _ _))) rfl ((e_ref10_large p _ _ _ _ _ _ _ _ _ _ _ _ _).trans h)
      · exact hF _ _ _ _ _ h
theorem E_ref10_large (p : Par) (n : Nat) {F : Ent3} (hF : EntOk (cfg p) 19 F) : EntOk (cfg p) 19 (P_ref10_large (Sp.ref10_large n) F) := (G89_ok p n) hF
abbrev Ty_ref10_Large : Type 1 := Int → Int → Int → Int → ByteArray → ByteArray → ByteArray → List (List Dat) → (γ : Type) → (Bool → Option γ) → Option γ
def P_ref10_Large (X : Ty_ref10_Large) (F : Ent3) : Ent3 := fun a s γ K => match a, s with
  | [AVal.agg [(Dat.int IntKind.i64 v_e0, Own.none), (Dat.int IntKind.i64 v_e1, Own.none), (Dat.int IntKind.i64 v_e2, Own.none), (Dat.int IntKind.i64 v_e3, Own.none), (Dat.str v_e4, Own.none), (Dat.str v_e5, Own.none), (Dat.str v_e6, Own.none), (Dat.sl v_e7, Own.none)]], [] => X v_e0 v_e1 v_e2 v_e3 v_e4 v_e5 v_e6 v_e7 γ (fun r0 => K ([(AVal.dat (Dat.bool r0), Own.none)], []))
  | a, s => F a s γ K
def T_ref10_Large (x_ref10_large : Ty_ref10_large) : CallK := (addK noneK 19 (P_ref10_large x_ref10_large none3))
def L_ref10_Large (x_ref10_large : Ty_ref10_large) : LoopK := noneL
def Sp.B_ref10_Large (x_ref10_large : Ty_ref10_large) (v_e0 : Int) (v_e1 : Int) (v_e2 : Int) (v_e3 : Int) (v_e4 : ByteArray) (v_e5 : ByteArray) (v_e6 : ByteArray) (v_e7 : List (List Dat)) (γ : Type) (K : Bool → Option γ) : Option γ := x_ref10_large v_e0 v_e1 v_e2 v_e3 v_e4 v_e5 v_e6 v_e7 0 0 γ fun (z10 : Bool) (z11 : Int) => K z10
theorem e_ref10_Large (p : Par) (x_ref10_large : Ty_ref10_large) (v_e0 : Int) (v_e1 : Int) (v_e2 : Int) (v_e3 : Int) (v_e4 : ByteArray) (v_e5 : ByteArray) (v_e6 : ByteArray) (v_e7 : List (List Dat)) (γ : Type) (K : List Ent × Sig → Option γ) : evFK (cfg p) (T_ref10_Large x_ref10_large) (L_ref10_Large x_ref10_large) 6 [AVal.agg [(Dat.int IntKind.i64 v_e0, Own.none), (Dat.int IntKind.i64 v_e1, Own.none), (Dat.int IntKind.i64 v_e2, Own.none), (Dat.int IntKind.i64 v_e3, Own.none), (Dat.str v_e4, Own.none), (Dat.str v_e5, Own.none), (Dat.str v_e6, Own.none), (Dat.sl v_e7, Own.none)]] [] γ K = Sp.B_ref10_Large x_ref10_large v_e0 v_e1 v_e2 v_e3 v_e4 v_e5 v_e6 v_e7 γ (fun r0 => K ([(AVal.dat (Dat.bool r0), Own.none)], [])) := by kernel_rfl
def Sp.ref10_Large : Ty_ref10_Large := Sp.B_ref10_Large (Sp.ref10_large fuel)
theorem E_ref10_Large (p : Par) {F : Ent3} (hF : EntOk (cfg p) 6 F) : EntOk (cfg p) 6 (P_ref10_Large Sp.ref10_Large F) := by
  intro a s γ K q h
  unfold P_ref10_Large at h
  split at h
  · exact body_ok (tab_call (tab_nil _) (E_ref10_large p fuel (ent_none _ _))) rfl ((e_ref10_Large p _ _ _ _ _ _ _ _ _ _ _).trans h)
  · exact hF _ _ _ _ _ h
abbrev Ty_ref10_Safe : Type 1 := Int → Int → Int → Int → ByteArray → ByteArray → ByteArray → List (List Dat) → (γ : Type) → (Bool → Option γ) → Option γ
def P_ref10_Safe (X : Ty_ref10_Safe) (F : Ent3) : Ent3 := fun a s γ K => match a, s with
  | [AVal.agg [(Dat.int IntKind.i64 v_e0, Own.none), (Dat.int IntKind.i64 v_e1, Own.none), (Dat.int IntKind.i64 v_e2, Own.none), (Dat.int IntKind.i64 v_e3, Own.none), (Dat.str v_e4, Own.none), (Dat.str v_e5, Own.none), (Dat.str v_e6, Own.none), (Dat.sl v_e7, Own.none)]], [] => X v_e0 v_e1 v_e2 v_e3 v_e4 v_e5 v_e6 v_e7 γ (fun r0 => K ([(AVal.dat (Dat.bool r0), Own.none)], []))
  | a, s => F a s γ K
abbrev Ty_ref10_Safe_L0 : Type 1 := Bool → Int → Int → Int → Int → Int → ByteArray → ByteArray → ByteArray → List (List Dat) → (γ : Type) → (Ex → Bool → Int → Int → Int → Int → Int → ByteArray → ByteArray → ByteArray → List (List Dat) → Option γ) → Option γ
def P_ref10_Safe_L0 (X : Ty_ref10_Safe_L0) (F : Loop3) : Loop3 := fun a s γ K => match a, s with
  | [AVal.loc 1 0], ([AVal.dat (Dat.bool v_), AVal.dat (Dat.int IntKind.i64 v_i), AVal.agg [(Dat.int IntKind.i64 v_box0, Own.none), (Dat.int IntKind.i64 v_box1, Own.none), (Dat.int IntKind.i64 v_box2, Own.none), (Dat.int IntKind.i64 v_box3, Own.none), (Dat.str v_box4, Own.none), (Dat.str v_box5, Own.none), (Dat.str v_box6, Own.none), (Dat.sl v_box7, Own.none)]], []) => X v_ v_i v_box0 v_box1 v_box2 v_box3 v_box4 v_box5 v_box6 v_box7 γ (fun e x0 x1 x2 x3 x4 x5 x6 x7 x8 x9 => K (e, ([AVal.dat (Dat.bool x0), AVal.dat (Dat.int IntKind.i64 x1), AVal.agg [(Dat.int IntKind.i64 x2, Own.none), (Dat.int IntKind.i64 x3, Own.none), (Dat.int IntKind.i64 x4, Own.none), (Dat.int IntKind.i64 x5, Own.none), (Dat.str x6, Own.none), (Dat.str x7, Own.none), (Dat.str x8, Own.none), (Dat.sl x9, Own.none)]], [])))
  | a, s => F a s γ K
def T_ref10_Safe_L0 (x_ref10_Safe : Ty_ref10_Safe) : CallK := (addK noneK 8 (P_ref10_Safe x_ref10_Safe none3))
def L_ref10_Safe_L0 (x_ref10_Safe : Ty_ref10_Safe) : LoopK := noneL
def Sp.B_ref10_Safe_L0 (x_ref10_Safe_L0 : Ty_ref10_Safe_L0) (x_ref10_Safe : Ty_ref10_Safe) (v_ : Bool) (v_i : Int) (v_box0 : Int) (v_box1 : Int) (v_box2 : Int) (v_box3 : Int) (v_box4 : ByteArray) (v_box5 : ByteArray) (v_box6 : ByteArray) (v_box7 : List (List Dat)) (γ : Type) (K : Ex → Bool → Int → Int → Int → Int → Int → ByteArray → ByteArray → ByteArray → List (List Dat) → Option γ) : Option γ := bif decide (v_i < Int.ofNat (List.length v_box7)) then elemAt v_box7 v_i fun (z12 : List Dat) => bif List.length z12 == 8 then cellAt z12 0 fun (z13 : Dat) => Aev.asInt IntKind.i64 z13 fun (z14 : Int) => cellAt z12 1 fun (z15 : Dat) => Aev.asInt IntKind.i64 z15 fun (z16 : Int) => cellAt z12 2 fun (z17 : Dat) => Aev.asInt IntKind.i64 z17 fun (z18 : Int) => cellAt z12 3 fun (z19 : Dat) => Aev.asInt IntKind.i64 z19 fun (z20 : Int) => cellAt z12 4 fun (z21 : Dat) => asStr z21 fun (z22 : ByteArray) => cellAt z12 5 fun (z23 : Dat) => asStr z23 fun (z24 : ByteArray) => cellAt z12 6 fun (z25 : Dat) => asStr z25 fun (z26 : ByteArray) => cellAt z12 7 fun (z27 : Dat) => asSl z27 fun (z28 : List (List Dat)) => x_ref10_Safe z14 z16 z18 z20 z22 z24 z26 z28 γ fun (z29 : Bool) => bif !z29 then K Ex.ret false v_i v_box0 v_box1 v_box2 v_box3 v_box4 v_box5 v_box6 v_box7 else x_ref10_Safe_L0 v_ (IntKind.wrap IntKind.i64 (v_i + 1)) v_box0 v_box1 v_box2 v_box3 v_box4 v_box5 v_box6 v_box7 γ K else none else K (Ex.exit 0) v_ v_i v_box0 v_box1 v_box2 v_box3 v_box4 v_box5 v_box6 v_box7
theorem e_ref10_Safe_L0 (p : Par) (x_ref10_Safe_L0 : Ty_ref10_Safe_L0) (x_ref10_Safe : Ty_ref10_Safe) (v_ : Bool) (v_i : Int) (v_box0 : Int) (v_box1 : Int) (v_box2 : Int) (v_box3 : Int) (v_box4 : ByteArray) (v_box5 : ByteArray) (v_box6 : ByteArray) (v_box7 : List (List Dat)) (γ : Type) (K : Ex × Vars → Option γ) : roundK (cfg p) (T_ref10_Safe_L0 x_ref10_Safe) (L_ref10_Safe_L0 x_ref10_Safe) 8 0 [AVal.loc 1 0] ([AVal.dat (Dat.bool v_), AVal.dat (Dat.int IntKind.i64 v_i), AVal.agg [(Dat.int IntKind.i64 v_box0, Own.none), (Dat.int IntKind.i64 v_box1, Own.none), (Dat.int IntKind.i64 v_box2, Own.none), (Dat.int IntKind.i64 v_box3, Own.none), (Dat.str v_box4, Own.none), (Dat.str v_box5, Own.none), (Dat.str v_box6, Own.none), (Dat.sl v_box7, Own.none)]], []) γ (contL (fun v => P_ref10_Safe_L0 x_ref10_Safe_L0 noneL3 [AVal.loc 1 0] v γ K) K) = Sp.B_ref10_Safe_L0 x_ref10_Safe_L0 x_ref10_Safe v_ v_i v_box0 v_box1 v_box2 v_box3 v_box4 v_box5 v_box6 v_box7 γ (fun e x0 x1 x2 x3 x4 x5 x6 x7 x8 x9 => K (e, ([AVal.dat (Dat.bool x0), AVal.dat (Dat.int IntKind.i64 x1), AVal.agg [(Dat.int IntKind.i64 x2, Own.none), (Dat.int IntKind.i64 x3, Own.none), (Dat.int IntKind.i64 x4, Own.none), (Dat.int IntKind.i64 x5, Own.none), (Dat.str x6, Own.none), (Dat.str x7, Own.none), (Dat.str x8, Own.none), (Dat.sl x9, Own.none)]], []))) := by kernel_rfl
def T_ref10_Safe (x_ref10_Safe_L0 : Ty_ref10_Safe_L0) : CallK := noneK
def L_ref10_Safe (x_ref10_Safe_L0 : Ty_ref10_Safe_L0) : LoopK := (addL noneL 8 0 (P_ref10_Safe_L0 x_ref10_Safe_L0 noneL3))
def Sp.B_ref10_Safe (x_ref10_Safe_L0 : Ty_ref10_Safe_L0) (v_e0 : Int) (v_e1 : Int) (v_e2 : Int) (v_e3 : Int) (v_e4 : ByteArray) (v_e5 : ByteArray) (v_e6 : ByteArray) (v_e7 : List (List Dat)) (γ : Type) (K : Bool → Option γ) : Option γ := bif decide (v_e0 = 4) then K false else bif decide (v_e0 = 3) then bif decide (10 ≤ v_e1) then bif decide (v_e1 ≤ 15) then K false else x_ref10_Safe_L0 false 0 v_e0 v_e1 v_e2 v_e3 v_e4 v_e5 v_e6 v_e7 γ fun (z10 : Ex) (z11 : Bool) (z12 z13 z14 z15 z16 : Int) (z17 z18 z19 : ByteArray) (z20 : List (List Dat)) => bif Ex.isExit z10 0 then K true else bif Ex.isRet z10 then K z11 else none else x_ref10_Safe_L0 false 0 v_e0 v_e1 v_e2 v_e3 v_e4 v_e5 v_e6 v_e7 γ fun (z21 : Ex) (z22 : Bool) (z23 z24 z25 z26 z27 : Int) (z28 z29 z30 : ByteArray) (z31 : List (List Dat)) => bif Ex.isExit z21 0 then K true else bif Ex.isRet z21 then K z22 else none else x_ref10_Safe_L0 false 0 v_e0 v_e1 v_e2 v_e3 v_e4 v_e5 v_e6 v_e7 γ fun (z32 : Ex) (z33 : Bool) (z34 z35 z36 z37 z38 : Int) (z39 z40 z41 : ByteArray) (z42 : List (List Dat)) => bif Ex.isExit z32 0 then K true else bif Ex.isRet z32 then K z33 else none
theorem e_ref10_Safe (p : Par) (x_ref10_Safe_L0 : Ty_ref10_Safe_L0) (v_e0 : Int) (v_e1 : Int) (v_e2 : Int) (v_e3 : Int) (v_e4 : ByteArray) (v_e5 : ByteArray) (v_e6 : ByteArray) (v_e7 : List (List Dat)) (γ : Type) (K : List Ent × Sig → Option γ) : evFK (cfg p) (T_ref10_Safe x_ref10_Safe_L0) (L_ref10_Safe x_ref10_Safe_L0) 8 [AVal.agg [(Dat.int IntKind.i64 v_e0, Own.none), (Dat.int IntKind.i64 v_e1, Own.none), (Dat.int IntKind.i64 v_e2, Own.none), (Dat.int IntKind.i64 v_e3, Own.none), (Dat.str v_e4, Own.none), (Dat.str v_e5, Own.none), (Dat.str v_e6, Own.none), (Dat.sl v_e7, Own.none)]] [] γ K = Sp.B_ref10_Safe x_ref10_Safe_L0 v_e0 v_e1 v_e2 v_e3 v_e4 v_e5 v_e6 v_e7 γ (fun r0 => K ([(AVal.dat (Dat.bool r0), Own.none)], [])) := by kernel_rfl
def Sp.ref10_Safe_L0 (R_ref10_Safe : Ty_ref10_Safe) : Nat → Ty_ref10_Safe_L0
  | 0 => fun _ _ _ _ _ _ _ _ _ _ _ _ => none
  | n + 1 => Sp.B_ref10_Safe_L0 (Sp.ref10_Safe_L0 R_ref10_Safe n) R_ref10_Safe
theorem E0_ref10_Safe_L0 (p : Par) (R_ref10_Safe : Ty_ref10_Safe) (h_ref10_Safe : ∀ {F : Ent3}, EntOk (cfg p) 8 F → EntOk (cfg p) 8 (P_ref10_Safe R_ref10_Safe F)) : ∀ n, EntOkL (cfg p) 8 0 (P_ref10_Safe_L0 (Sp.ref10_Safe_L0 R_ref10_Safe n) noneL3) := entL_rounds (tab_call (tab_nil _) (h_ref10_Safe (ent_none _ _))) (by kernel_rfl) (fun c v γ K => by unfold P_ref10_Safe_L0; split <;> rfl) fun n c v γ K q h => by
  unfold P_ref10_Safe_L0 at h
  split at h
  · exact (e_ref10_Safe_L0 p _ _ _ _ _ _ _ _ _ _ _ _ _ _).trans h
  · cases h
theorem E_ref10_Safe_L0 (p : Par) (R_ref10_Safe : Ty_ref10_Safe) (h_ref10_Safe : ∀ {F : Ent3}, EntOk (cfg p) 8 F → EntOk (cfg p) 8 (P_ref10_Safe R_ref10_Safe F)) (n : Nat) {F : Loop3} (hF : EntOkL (cfg p) 8 0 F) : EntOkL (cfg p) 8 0 (P_ref10_Safe_L0 (Sp.ref10_Safe_L0 R_ref10_Safe n) F) := by
  intro c v γ K q h
  unfold P_ref10_Safe_L0 at h
  split at h
  · exact E0_ref10_Safe_L0 p R_ref10_Safe h_ref10_Safe n _ _ _ _ _ h
  · exact hF _ _ _ _ _ h
def Sp.ref10_Safe : Nat → Ty_ref10_Safe
  | 0 => fun _ _ _ _ _ _ _ _ _ _ => none
  | n + 1 => Sp.B_ref10_Safe (Sp.ref10_Safe_L0 (Sp.ref10_Safe n) fuel)
theorem G91_ok (p : Par) (n : Nat) : (∀ {F : Ent3}, EntOk (cfg p) 8 F → EntOk (cfg p) 8 (P_ref10_Safe (Sp.ref10_Safe n) F)) := by
  induction n with
  | zero =>
    refine ?_
    · intro F hF a s γ K q h
      unfold P_ref10_Safe at h
      split at h
      · cases h
      · exact hF _ _ _ _ _ h
  | succ n ih =>
    refine ?_
    · intro F hF a s γ K q h
      unfold P_ref10_Safe at h
      split at h
      · exact body_ok (tab_loop (tab_nil _) (E_ref10_Safe_L0 p (Sp.ref10_Safe n) ih fuel (entL_none _ _ _))) rfl ((e_ref10_Safe p _ _ _ _ _ _ _ _ _ _ _).trans h)
      · exact hF _ _ _ _ _ h
theorem E_ref10_Safe (p : Par) (n : Nat) {F : Ent3} (hF : EntOk (cfg p) 8 F) : EntOk (cfg p) 8 (P_ref10_Safe (Sp.ref10_Safe n) F) := (G91_ok p n) hF
abbrev Ty_law16_CalcAnds_L0 : Type 1 := List (List Dat) → List (List Dat) → Bool → Bool → Bool → Int → (γ : Type) → (Ex → Bool → Bool → Bool → Int → Option γ) → Option γ
def P_law16_CalcAnds_L0 (X : Ty_law16_CalcAnds_L0) (F : Loop3) : Loop3 := fun a s γ K => match a, s with
  | [AVal.dat (Dat.sl v_l), AVal.dat (Dat.sl v_r)], ([AVal.dat (Dat.bool v_), AVal.dat (Dat.bool v_all), AVal.dat (Dat.bool v_no), AVal.dat (Dat.int IntKind.i64 v_i)], []) => X v_l v_r v_ v_all v_no v_i γ (fun e x0 x1 x2 x3 => K (e, ([AVal.dat (Dat.bool x0), AVal.dat (Dat.bool x1), AVal.dat (Dat.bool x2), AVal.dat (Dat.int IntKind.i64 x3)], [])))
  | a, s => F a s γ K
def T_law16_CalcAnds_L0 (x_ref10_Large : Ty_ref10_Large) (x_law16_lives : Ty_law16_lives) (x_calc_Holds : Ty_calc_Holds) (x_ref10_Safe : Ty_ref10_Safe) : CallK := (addK (addK (addK (addK noneK 6 (P_ref10_Large x_ref10_Large none3)) 5 (P_law16_lives x_law16_lives none3)) 7 (P_calc_Holds x_calc_Holds none3)) 8 (P_ref10_Safe x_ref10_Safe none3))
def L_law16_CalcAnds_L0 (x_ref10_Large : Ty_ref10_Large) (x_law16_lives : Ty_law16_lives) (x_calc_Holds : Ty_calc_Holds) (x_ref10_Safe : Ty_ref10_Safe) : LoopK := noneL
def Sp.B_law16_CalcAnds_L0 (x_law16_CalcAnds_L0 : Ty_law16_CalcAnds_L0) (x_ref10_Large : Ty_ref10_Large) (x_law16_lives : Ty_law16_lives) (x_calc_Holds : Ty_calc_Holds) (x_ref10_Safe : Ty_ref10_Safe) (v_l : List (List Dat)) (v_r : List (List Dat)) (v_ : Bool) (v_all : Bool) (v_no : Bool) (v_i : Int) (γ : Type) (K : Ex → Bool → Bool → Bool → Int → Option γ) : Option γ := bif decide (v_i < Int.ofNat (List.length v_l)) then elemAt v_l v_i fun (z8 : List Dat) => bif List.length z8 == 8 then cellAt z8 0 fun (z9 : Dat) => Aev.asInt IntKind.i64 z9 fun (z10 : Int) => cellAt z8 1 fun (z11 : Dat) => Aev.asInt IntKind.i64 z11 fun (z12 : Int) => cellAt z8 2 fun (z13 : Dat) => Aev.asInt IntKind.i64 z13 fun (z14 : Int) => cellAt z8 3 fun (z15 : Dat) => Aev.asInt IntKind.i64 z15 fun (z16 : Int) => cellAt z8 4 fun (z17 : Dat) => asStr z17 fun (z18 : ByteArray) => cellAt z8 5 fun (z19 : Dat) => asStr z19 fun (z20 : ByteArray) => cellAt z8 6 fun (z21 : Dat) => asStr z21 fun (z22 : ByteArray) => cellAt z8 7 fun (z23 : Dat) => asSl z23 fun (z24 : List (List Dat)) => x_ref10_Large z10 z12 z14 z16 z18 z20 z22 z24 γ fun (z25 : Bool) => bif z25 then x_law16_lives γ fun (z26 : Bool) => K Ex.ret z26 v_all v_no v_i else elemAt v_l v_i fun (z27 : List Dat) => bif List.length z27 == 8 then cellAt z27 0 fun (z28 : Dat) => Aev.asInt IntKind.i64 z28 fun (z29 : Int) => cellAt z27 1 fun (z30 : Dat) => Aev.asInt IntKind.i64 z30 fun (z31 : Int) => cellAt z27 2 fun (z32 : Dat) => Aev.asInt IntKind.i64 z32 fun (z33 : Int) => cellAt z27 3 fun (z34 : Dat) => Aev.asInt IntKind.i64 z34 fun (z35 : Int) => cellAt z27 4 fun (z36 : Dat) => asStr z36 fun (z37 : ByteArray) => cellAt z27 5 fun (z38 : Dat) => asStr z38 fun (z39 : ByteArray) => cellAt z27 6 fun (z40 : Dat) => asStr z40 fun (z41 : ByteArray) => cellAt z27 7 fun (z42 : Dat) => asSl z42 fun (z43 : List (List Dat)) => x_calc_Holds z29 z31 z33 z35 z37 z39 z41 z43 v_r γ fun (z44 : Bool) (z45 : Int) => bif v_all then bif z44 then bif v_no then x_law16_CalcAnds_L0 v_l v_r v_ (decide (z45 = 0)) true (IntKind.wrap IntKind.i64 (v_i + 1)) γ K else bif decide (z45 = 0) then bif !z44 then elemAt v_l v_i fun (z46 : List Dat) => bif List.length z46 == 8 then cellAt z46 0 fun (z47 : Dat) => Aev.asInt IntKind.i64 z47 fun (z48 : Int) => cellAt z46 1 fun (z49 : Dat) => Aev.asInt IntKind.i64 z49 fun (z50 : Int) => cellAt z46 2 fun (z51 : Dat) => Aev.asInt IntKind.i64 z51 fun (z52 : Int) => cellAt z46 3 fun (z53 : Dat) => Aev.asInt IntKind.i64 z53 fun (z54 : Int) => cellAt z46 4 fun (z55 : Dat) => asStr z55 fun (z56 : ByteArray) => cellAt z46 5 fun (z57 : Dat) => asStr z57 fun (z58 : ByteArray) => cellAt z46 6 fun (z59 : Dat) => asStr z59 fun (z60 : ByteArray) => cellAt z46 7 fun (z61 : Dat) => asSl z61 fun (z62 : List (List Dat)) => x_ref10_Safe z48 z50 z52 z54 z56 z58 z60 z62 γ fun (z63 : Bool) => x_law16_CalcAnds_L0 v_l v_r v_ (decide (z45 = 0)) z63 (IntKind.wrap IntKind.i64 (v_i + 1)) γ K else none else x_law16_CalcAnds_L0 v_l v_r v_ (decide (z45 = 0)) false (IntKind.wrap IntKind.i64 (v_i + 1)) γ K else x_law16_CalcAnds_L0 v_l v_r v_ (decide (z45 = 0)) false (IntKind.wrap IntKind.i64 (v_i + 1)) γ K else bif v_no then x_law16_CalcAnds_L0 v_l v_r v_ false true (IntKind.wrap IntKind.i64 (v_i + 1)) γ K else bif decide (z45 = 0) then bif !z44 then elemAt v_l v_i fun (z64 : List Dat) => bif List.length z64 == 8 then cellAt z64 0 fun (z65 : Dat) => Aev.asInt IntKind.i64 z65 fun (z66 : Int) => cellAt z64 1 fun (z67 : Dat) => Aev.asInt IntKind.i64 z67 fun (z68 : Int) => cellAt z64 2 fun (z69 : Dat) => Aev.asInt IntKind.i64 z69 fun (z70 : Int) => cellAt z64 3 fun (z71 : Dat) => Aev.asInt IntKind.i64 z71 fun (z72 : Int) => cellAt z64 4 fun (z73 : Dat) => asStr z73 fun (z74 : ByteArray) => cellAt z64 5 fun (z75 : Dat) => asStr z75 fun (z76 : ByteArray) => cellAt z64 6 fun (z77 : Dat) => asStr z77 fun (z78 : ByteArray) => cellAt z64 7 fun (z79 : Dat) => asSl z79 fun (z80 : List (List Dat)) => x_ref10_Safe z66 z68 z70 z72 z74 z76 z78 z80 γ fun (z81 : Bool) => x_law16_CalcAnds_L0 v_l v_r v_ false z81 (IntKind.wrap IntKind.i64 (v_i + 1)) γ K else none else x_law16_CalcAnds_L0 v_l v_r v_ false false (IntKind.wrap IntKind.i64 (v_i + 1)) γ K else x_law16_CalcAnds_L0 v_l v_r v_ false false (IntKind.wrap IntKind.i64 (v_i + 1)) γ K else bif v_no then x_law16_CalcAnds_L0 v_l v_r v_ false true (IntKind.wrap IntKind.i64 (v_i + 1)) γ K else bif decide (z45 = 0) then bif !z44 then elemAt v_l v_i fun (z82 : List Dat) => bif List.length z82 == 8 then cellAt z82 0 fun (z83 : Dat) => Aev.asInt IntKind.i64 z83 fun (z84 : Int) => cellAt z82 1 fun (z85 : Dat) => Aev.asInt IntKind.i64 z85 fun (z86 : Int) => cellAt z82 2 fun (z87 : Dat) => Aev.asInt IntKind.i64 z87 fun (z88 : Int) => cellAt z82 3 fun (z89 : Dat) => Aev.asInt IntKind.i64 z89 fun (z90 : Int) => cellAt z82 4 fun (z91 : Dat) => asStr z91 fun (z92 : ByteArray) => cellAt z82 5 fun (z93 : Dat) => asStr z93 fun (z94 : ByteArray) => cellAt z82 6 fun (z95 : Dat) => asStr z95 fun (z96 : ByteArray) => cellAt z82 7 fun (z97 : Dat) => asSl z97 fun (z98 : List (List Dat)) => x_ref10_Safe z84 z86 z88 z90 z92 z94 z96 z98 γ fun (z99 : Bool) => x_law16_CalcAnds_L0 v_l v_r v_ false z99 (IntKind.wrap IntKind.i64 (v_i + 1)) γ K else none else x_law16_CalcAnds_L0 v_l v_r v_ false false (IntKind.wrap IntKind.i64 (v_i + 1)) γ K else x_law16_CalcAnds_L0 v_l v_r v_ false false (IntKind.wrap IntKind.i64 (v_i + 1)) γ K else none else none else K (Ex.exit 0) v_ v_all v_no v_i
theorem e_law16_CalcAnds_L0 (p : Par) (x_law16_CalcAnds_L0 : Ty_law16_CalcAnds_L0) (x_ref10_Large : Ty_ref10_Large) (x_law16_lives : Ty_law16_lives) (x_calc_Holds : Ty_calc_Holds) (x_ref10_Safe : Ty_ref10_Safe) (v_l : List (List Dat)) (v_r : List (List Dat)) (v_ : Bool) (v_all : Bool) (v_no : Bool) (v_i : Int) (γ : Type) (K : Ex × Vars → Option γ) : roundK (cfg p) (T_law16_CalcAnds_L0 x_ref10_Large x_law16_lives x_calc_Holds x_ref10_Safe) (L_law16_CalcAnds_L0 x_ref10_Large x_law16_lives x_calc_Holds x_ref10_Safe) 3 0 [AVal.dat (Dat.sl v_l), AVal.dat (Dat.sl v_r)] ([AVal.dat (Dat.bool v_), AVal.dat (Dat.bool v_all), AVal.dat (Dat.bool v_no), AVal.dat (Dat.int IntKind.i64 v_i)], []) γ (contL (fun v => P_law16_CalcAnds_L0 x_law16_CalcAnds_L0 noneL3 [AVal.dat (Dat.sl v_l), AVal.dat (Dat.sl v_r)] v γ K) K) = Sp.B_law16_CalcAnds_L0 x_law16_CalcAnds_L0 x_ref10_Large x_law16_lives x_calc_Holds x_ref10_Safe v_l v_r v_ v_all v_no v_i γ (fun e x0 x1 x2 x3 => K (e, ([AVal.dat (Dat.bool x0), AVal.dat (Dat.bool x1), AVal.dat (Dat.bool x2), AVal.dat (Dat.int IntKind.i64 x3)], []))) := by kernel_rfl
def Sp.law16_CalcAnds_L0 : Nat → Ty_law16_CalcAnds_L0
  | 0 => fun _ _ _ _ _ _ _ _ => none
  | n + 1 => Sp.B_law16_CalcAnds_L0 (Sp.law16_CalcAnds_L0 n) Sp.ref10_Large Sp.law16_lives Sp.calc_Holds (Sp.ref10_Safe fuel)
theorem E0_law16_CalcAnds_L0 (p : Par)   : ∀ n, EntOkL (cfg p) 3 0 (P_law16_CalcAnds_L0 (Sp.law16_CalcAnds_L0  n) noneL3) := entL_rounds (tab_call (tab_call (tab_call (tab_call (tab_nil _) (E_ref10_Large p (ent_none _ _))) (E_law16_lives p (ent_none _ _))) (E_calc_Holds p (ent_none _ _))) (E_ref10_Safe p fuel (ent_none _ _))) (by kernel_rfl) (fun c v γ K => by unfold P_law16_CalcAnds_L0; split <;> rfl) fun n c v γ K q h => by
  unfold P_law16_CalcAnds_L0 at h
  split at h
  · exact (e_law16_CalcAnds_L0 p _ _ _ _ _ _ _ _ _ _ _ _ _).trans h
  · cases h
theorem E_law16_CalcAnds_L0 (p : Par)   (n : Nat) {F : Loop3} (hF : EntOkL (cfg p) 3 0 F) : EntOkL (cfg p) 3 0 (P_law16_CalcAnds_L0 (Sp.law16_CalcAnds_L0  n) F) := by
  intro c v γ K q h
  unfold P_law16_CalcAnds_L0 at h
  split at h
  · exact E0_law16_CalcAnds_L0 p   n _ _ _ _ _ h
  · exact hF _ _ _ _ _ h
abbrev Ty_ref10_All_L0 : Type 1 := List (List Dat) → Int → Int → Int → Int → Int → ByteArray → ByteArray → ByteArray → List (List Dat) → Int → Int → Int → Int → ByteArray → ByteArray → ByteArray → List (List Dat) → (γ : Type) → (Ex → Int → Int → Int → Int → Int → ByteArray → ByteArray → ByteArray → List (List Dat) → Int → Int → Int → Int → ByteArray → ByteArray → ByteArray → List (List Dat) → Option γ) → Option γ
def P_ref10_All_L0 (X : Ty_ref10_All_L0) (F : Loop3) : Loop3 := fun a s γ K => match a, s with
  | [AVal.dat (Dat.sl v_l), AVal.loc 2 0, AVal.loc 3 0], ([AVal.dat (Dat.int IntKind.i64 v_i), AVal.agg [(Dat.int IntKind.i64 v_box0, Own.none), (Dat.int IntKind.i64 v_box1, Own.none), (Dat.int IntKind.i64 v_box2, Own.none), (Dat.int IntKind.i64 v_box3, Own.none), (Dat.str v_box4, Own.none), (Dat.str v_box5, Own.none), (Dat.str v_box6, Own.none), (Dat.sl v_box7, Own.none)], AVal.agg [(Dat.int IntKind.i64 v_box0_1, Own.none), (Dat.int IntKind.i64 v_box1_1, Own.none), (Dat.int IntKind.i64 v_box2_1, Own.none), (Dat.int IntKind.i64 v_box3_1, Own.none), (Dat.str v_box4_1, Own.none), (Dat.str v_box5_1, Own.none), (Dat.str v_box6_1, Own.none), (Dat.sl v_box7_1, Own.none)]], []) => X v_l v_i v_box0 v_box1 v_box2 v_box3 v_box4 v_box5 v_box6 v_box7 v_box0_1 v_box1_1 v_box2_1 v_box3_1 v_box4_1 v_box5_1 v_box6_1 v_box7_1 γ (fun e x0 x1 x2 x3 x4 x5 x6 x7 x8 x9 x10 x11 x12 x13 x14 x15 x16 => K (e, ([AVal.dat (Dat.int IntKind.i64 x0), AVal.agg [(Dat.int IntKind.i64 x1, Own.none), (Dat.int IntKind.i64 x2, Own.none), (Dat.int IntKind.i64 x3, Own.none), (Dat.int IntKind.i64 x4, Own.none), (Dat.str x5, Own.none), (Dat.str x6, Own.none), (Dat.str x7, Own.none), (Dat.sl x8, Own.none)], AVal.agg [(Dat.int IntKind.i64 x9, Own.none), (Dat.int IntKind.i64 x10, Own.none), (Dat.int IntKind.i64 x11, Own.none), (Dat.int IntKind.i64 x12, Own.none), (Dat.str x13, Own.none), (Dat.str x14, Own.none), (Dat.str x15, Own.none), (Dat.sl x16, Own.none)]], [])))
  | a, s => F a s γ K
def T_ref10_All_L0 (x_ref10_Op : Ty_ref10_Op) : CallK := (addK noneK 25 (P_ref10_Op x_ref10_Op none3))
def L_ref10_All_L0 (x_ref10_Op : Ty_ref10_Op) : LoopK := noneL
def Sp.B_ref10_All_L0 (x_ref10_All_L0 : Ty_ref10_All_L0) (x_ref10_Op : Ty_ref10_Op) (v_l : List (List Dat)) (v_i : Int) (v_box0 : Int) (v_box1 : Int) (v_box2 : Int) (v_box3 : Int) (v_box4 : ByteArray) (v_box5 : ByteArray) (v_box6 : ByteArray) (v_box7 : List (List Dat)) (v_box0_1 : Int) (v_box1_1 : Int) (v_box2_1 : Int) (v_box3_1 : Int) (v_box4_1 : ByteArray) (v_box5_1 : ByteArray) (v_box6_1 : ByteArray) (v_box7_1 : List (List Dat)) (γ : Type) (K : Ex → Int → Int → Int → Int → Int → ByteArray → ByteArray → ByteArray → List (List Dat) → Int → Int → Int → Int → ByteArray → ByteArray → ByteArray → List (List Dat) → Option γ) : Option γ := bif decide (v_i < Int.ofNat (List.length v_l)) then elemAt v_l v_i fun (z20 : List Dat) => bif List.length z20 == 8 then cellAt z20 0 fun (z21 : Dat) => Aev.asInt IntKind.i64 z21 fun (z22 : Int) => cellAt z20 1 fun (z23 : Dat) => Aev.asInt IntKind.i64 z23 fun (z24 : Int) => cellAt z20 2 fun (z25 : Dat) => Aev.asInt IntKind.i64 z25 fun (z26 : Int) => cellAt z20 3 fun (z27 : Dat) => Aev.asInt IntKind.i64 z27 fun (z28 : Int) => cellAt z20 4 fun (z29 : Dat) => asStr z29 fun (z30 : ByteArray) => cellAt z20 5 fun (z31 : Dat) => asStr z31 fun (z32 : ByteArray) => cellAt z20 6 fun (z33 : Dat) => asStr z33 fun (z34 : ByteArray) => cellAt z20 7 fun (z35 : Dat) => asSl z35 fun (z36 : List (List Dat)) => x_ref10_Op 2 [[Dat.int IntKind.i64 v_box0_1, Dat.int IntKind.i64 v_box1_1, Dat.int IntKind.i64 v_box2_1, Dat.int IntKind.i64 v_box3_1, Dat.str v_box4_1, Dat.str v_box5_1, Dat.str v_box6_1, Dat.sl v_box7_1], [Dat.int IntKind.i64 z22, Dat.int IntKind.i64 z24, Dat.int IntKind.i64 z26, Dat.int IntKind.i64 z28, Dat.str z30, Dat.str z32, Dat.str z34, Dat.sl z36]] γ fun (z37 z38 z39 z40 : Int) (z41 z42 z43 : ByteArray) (z44 : List (List Dat)) => x_ref10_All_L0 v_l (IntKind.wrap IntKind.i64 (v_i + 1)) v_box0 v_box1 v_box2 v_box3 v_box4 v_box5 v_box6 v_box7 z37 z38 z39 z40 z41 z42 z43 z44 γ K else none else K (Ex.exit 0) v_i v_box0 v_box1 v_box2 v_box3 v_box4 v_box5 v_box6 v_box7 v_box0_1 v_box1_1 v_box2_1 v_box3_1 v_box4_1 v_box5_1 v_box6_1 v_box7_1
theorem e_ref10_All_L0 (p : Par) (x_ref10_All_L0 : Ty_ref10_All_L0) (x_ref10_Op : Ty_ref10_Op) (v_l : List (List Dat)) (v_i : Int) (v_box0 : Int) (v_box1 : Int) (v_box2 : Int) (v_box3 : Int) (v_box4 : ByteArray) (v_box5 : ByteArray) (v_box6 : ByteArray) (v_box7 : List (List Dat)) (v_box0_1 : Int) (v_box1_1 : Int) (v_box2_1 : Int) (v_box3_1 : Int) (v_box4_1 : ByteArray) (v_box5_1 : ByteArray) (v_box6_1 : ByteArray) (v_box7_1 : List (List Dat)) (γ : Type) (K : Ex × Vars → Option γ) : roundK (cfg p) (T_ref10_All_L0 x_ref10_Op) (L_ref10_All_L0 x_ref10_Op) 9 0 [AVal.dat (Dat.sl v_l), AVal.loc 2 0, AVal.loc 3 0] ([AVal.dat (Dat.int IntKind.i64 v_i), AVal.agg [(Dat.int IntKind.i64 v_box0, Own.none), (Dat.int IntKind.i64 v_box1, Own.none), (Dat.int IntKind.i64 v_box2, Own.none), (Dat.int IntKind.i64 v_box3, Own.none), (Dat.str v_box4, Own.none), (Dat.str v_box5, Own.none), (Dat.str v_box6, Own.none), (Dat.sl v_box7, Own.none)], AVal.agg [(Dat.int IntKind.i64 v_box0_1, Own.none), (Dat.int IntKind.i64 v_box1_1, Own.none), (Dat.int IntKind.i64 v_box2_1, Own.none), (Dat.int IntKind.i64 v_box3_1, Own.none), (Dat.str v_box4_1, Own.none), (Dat.str v_box5_1, Own.none), (Dat.str v_box6_1, Own.none), (Dat.sl v_box7_1, Own.none)]], []) γ (contL (fun v => P_ref10_All_L0 x_ref10_All_L0 noneL3 [AVal.dat (Dat.sl v_l), AVal.loc 2 0, AVal.loc 3 0] v γ K) K) = Sp.B_ref10_All_L0 x_ref10_All_L0 x_ref10_Op v_l v_i v_box0 v_box1 v_box2 v_box3 v_box4 v_box5 v_box6 v_box7 v_box0_1 v_box1_1 v_box2_1 v_box3_1 v_box4_1 v_box5_1 v_box6_1 v_box7_1 γ (fun e x0 x1 x2 x3 x4 x5 x6 x7 x8 x9 x10 x11 x12 x13 x14 x15 x16 => K (e, ([AVal.dat (Dat.int IntKind.i64 x0), AVal.agg [(Dat.int IntKind.i64 x1, Own.none), (Dat.int IntKind.i64 x2, Own.none), (Dat.int IntKind.i64 x3, Own.none), (Dat.int IntKind.i64 x4, Own.none), (Dat.str x5, Own.none), (Dat.str x6, Own.none), (Dat.str x7, Own.none), (Dat.sl x8, Own.none)], AVal.agg [(Dat.int IntKind.i64 x9, Own.none), (Dat.int IntKind.i64 x10, Own.none), (Dat.int IntKind.i64 x11, Own.none), (Dat.int IntKind.i64 x12, Own.none), (Dat.str x13, Own.none), (Dat.str x14, Own.none), (Dat.str x15, Own.none), (Dat.sl x16, Own.none)]], []))) := by kernel_rfl
def Sp.ref10_All_L0 : Nat → Ty_ref10_All_L0
  | 0 => fun _ _ _ _ _ _ _ _ _ _ _ _ _ _ _ _ _ _ _ _ => none
  | n + 1 => Sp.B_ref10_All_L0 (Sp.ref10_All_L0 n) Sp.ref10_Op
theorem E0_ref10_All_L0 (p : Par)   : ∀ n, EntOkL (cfg p) 9 0 (P_ref10_All_L0 (Sp.ref10_All_L0  n) noneL3) := entL_rounds (tab_call (tab_nil _) (E_ref10_Op p (ent_none _ _))) (by kernel_rfl) (fun c v γ K => by unfold P_ref10_All_L0; split <;> rfl) fun n c v γ K q h => by
  unfold P_ref10_All_L0 at h
  split at h
  · exact (e_ref10_All_L0 p _ _ _ _ _ _ _ _ _ _ _ _ _ _ _ _ _ _ _ _ _ _).trans h
  · cases h
theorem E_ref10_All_L0 (p : Par)   (n : Nat) {F : Loop3} (hF : EntOkL (cfg p) 9 0 F) : EntOkL (cfg p) 9 0 (P_ref10_All_L0 (Sp.ref10_All_L0  n) F) := by
  intro c v γ K q h
  unfold P_ref10_All_L0 at h
  split at h
  · exact E0_ref10_All_L0 p   n _ _ _ _ _ h
  · exact hF _ _ _ _ _ h
abbrev Ty_ref10_All : Type 1 := List (List Dat) → (γ : Type) → (Int → Int → Int → Int → ByteArray → ByteArray → ByteArray → List (List Dat) → Option γ) → Option γ
def P_ref10_All (X : Ty_ref10_All) (F : Ent3) : Ent3 := fun a s γ K => match a, s with
  | [AVal.dat (Dat.sl v_l)], [] => X v_l γ (fun r0 r1 r2 r3 r4 r5 r6 r7 => K ([(AVal.agg [(Dat.int IntKind.i64 r0, Own.none), (Dat.int IntKind.i64 r1, Own.none), (Dat.int IntKind.i64 r2, Own.none), (Dat.int IntKind.i64 r3, Own.none), (Dat.str r4, Own.none), (Dat.str r5, Own.none), (Dat.str r6, Own.none), (Dat.sl r7, Own.none)], Own.none)], []))
  | a, s => F a s γ K
def T_ref10_All (x_ref01_Bool : Ty_ref01_Bool) (x_ref10_Lit : Ty_ref10_Lit) (x_ref10_All_L0 : Ty_ref10_All_L0) : CallK := (addK (addK noneK 17 (P_ref01_Bool x_ref01_Bool none3)) 24 (P_ref10_Lit x_ref10_Lit none3))
def L_ref10_All (x_ref01_Bool : Ty_ref01_Bool) (x_ref10_Lit : Ty_ref10_Lit) (x_ref10_All_L0 : Ty_ref10_All_L0) : LoopK := (addL noneL 9 0 (P_ref10_All_L0 x_ref10_All_L0 noneL3))
def Sp.B_ref10_All (x_ref01_Bool : Ty_ref01_Bool) (x_ref10_Lit : Ty_ref10_Lit) (x_ref10_All_L0 : Ty_ref10_All_L0) (v_l : List (List Dat)) (γ : Type) (K : Int → Int → Int → Int → ByteArray → ByteArray → ByteArray → List (List Dat) → Option γ) : Option γ := bif decide (Int.ofNat (List.length v_l) = 0) then x_ref01_Bool true γ fun (z3 z4 : Int) (z5 : ByteArray) => x_ref10_Lit z3 z4 z5 γ fun (z6 z7 z8 z9 : Int) (z10 z11 z12 : ByteArray) (z13 : List (List Dat)) => K z6 z7 z8 z9 z10 z11 z12 z13 else elemAt v_l 0 fun (z14 : List Dat) => bif List.length z14 == 8 then cellAt z14 0 fun (z15 : Dat) => Aev.asInt IntKind.i64 z15 fun (z16 : Int) => cellAt z14 1 fun (z17 : Dat) => Aev.asInt IntKind.i64 z17 fun (z18 : Int) => cellAt z14 2 fun (z19 : Dat) => Aev.asInt IntKind.i64 z19 fun (z20 : Int) => cellAt z14 3 fun (z21 : Dat) => Aev.asInt IntKind.i64 z21 fun (z22 : Int) => cellAt z14 4 fun (z23 : Dat) => asStr z23 fun (z24 : ByteArray) => cellAt z14 5 fun (z25 : Dat) => asStr z25 fun (z26 : ByteArray) => cellAt z14 6 fun (z27 : Dat) => asStr z27 fun (z28 : ByteArray) => cellAt z14 7 fun (z29 : Dat) => asSl z29 fun (z30 : List (List Dat)) => x_ref10_All_L0 v_l 1 0 0 0 0 (bs []) (bs []) (bs []) [] z16 z18 z20 z22 z24 z26 z28 z30 γ fun (z31 : Ex) (z32 z33 z34 z35 z36 : Int) (z37 z38 z39 : ByteArray) (z40 : List (List Dat)) (z41 z42 z43 z44 : Int) (z45 z46 z47 : ByteArray) (z48 : List (List Dat)) => bif Ex.isExit z31 0 then K z41 z42 z43 z44 z45 z46 z47 z48 else bif Ex.isRet z31 then K z33 z34 z35 z36 z37 z38 z39 z40 else none else none
theorem e_ref10_All (p : Par) (x_ref01_Bool : Ty_ref01_Bool) (x_ref10_Lit : Ty_ref10_Lit) (x_ref10_All_L0 : Ty_ref10_All_L0) (v_l : List (List Dat)) (γ : Type) (K : List Ent × Sig → Option γ) : evFK (cfg p) (T_ref10_All x_ref01_Bool x_ref10_Lit x_ref10_All_L0) (L_ref10_All x_ref01_Bool x_ref10_Lit x_ref10_All_L0) 9 [AVal.dat (Dat.sl v_l)] [] γ K = Sp.B_ref10_All x_ref01_Bool x_ref10_Lit x_ref10_All_L0 v_l γ (fun r0 r1 r2 r3 r4 r5 r6 r7 => K ([(AVal.agg [(Dat.int IntKind.i64 r0, Own.none), (Dat.int IntKind.i64 r1, Own.none), (Dat.int IntKind.i64 r2, Own.none), (Dat.int IntKind.i64 r3, Own.none), (Dat.str r4, Own.none), (Dat.str r5, Own.none), (Dat.str r6, Own.none), (Dat.sl r7, Own.none)], Own.none)], [])) := by kernel_rfl
def Sp.ref10_All : Ty_ref10_All := Sp.B_ref10_All Sp.ref01_Bool Sp.ref10_Lit (Sp.ref10_All_L0 fuel)
theorem E_ref10_All (p : Par) {F : Ent3} (hF : EntOk (cfg p) 9 F) : EntOk (cfg p) 9 (P_ref10_All Sp.ref10_All F) := by
  intro a s γ K q h
  unfold P_ref10_All at h
  split at h
  · exact body_ok (tab_loop (tab_call (tab_call (tab_nil _) (E_ref01_Bool p (ent_none _ _))) (E_ref10_Lit p (ent_none _ _))) (E_ref10_All_L0 p fuel (entL_none _ _ _))) rfl ((e_ref10_All p _ _ _ _ _ _).trans h)
  · exact hF _ _ _ _ _ h
abbrev Ty_ref01_Check : Type 1 := Int → Int → ByteArray → (γ : Type) → (Bool → Option γ) → Option γ
def P_ref01_Check (X : Ty_ref01_Check) (F : Ent3) : Ent3 := fun a s γ K => match a, s with
  | [AVal.agg [(Dat.int IntKind.i64 v_v0, Own.none), (Dat.int IntKind.i64 v_v1, Own.none), (Dat.str v_v2, Own.none)]], [] => X v_v0 v_v1 v_v2 γ (fun r0 => K ([(AVal.dat (Dat.bool r0), Own.none)], []))
  | a, s => F a s γ K
def T_ref01_Check  : CallK := noneK
def L_ref01_Check  : LoopK := noneL
def Sp.B_ref01_Check  (v_v0 : Int) (v_v1 : Int) (v_v2 : ByteArray) (γ : Type) (K : Bool → Option γ) : Option γ := bif decide (v_v0 = 0) then bif decide (v_v1 = 0) then K (decide (v_v2 = bs [])) else K false else bif decide (v_v0 = 1) then bif decide (v_v1 = 0) then K (decide (v_v2 = bs [])) else bif decide (v_v1 = 1) then K (decide (v_v2 = bs [])) else K false else bif decide (v_v0 = 2) then bif decide (-9007199254740991 ≤ v_v1) then bif decide (v_v1 ≤ 9007199254740991) then K (decide (v_v2 = bs [])) else K false else K false else bif decide (v_v0 = 3) then bif decide (v_v1 = 0) then K (decide (Int.ofNat (ByteArray.size v_v2) ≤ 64)) else K false else K false
theorem e_ref01_Check (p : Par)  (v_v0 : Int) (v_v1 : Int) (v_v2 : ByteArray) (γ : Type) (K : List Ent × Sig → Option γ) : evFK (cfg p) (T_ref01_Check ) (L_ref01_Check ) 65 [AVal.agg [(Dat.int IntKind.i64 v_v0, Own.none), (Dat.int IntKind.i64 v_v1, Own.none), (Dat.str v_v2, Own.none)]] [] γ K = Sp.B_ref01_Check  v_v0 v_v1 v_v2 γ (fun r0 => K ([(AVal.dat (Dat.bool r0), Own.none)], [])) := by kernel_rfl
def Sp.ref01_Check : Ty_ref01_Check := Sp.B_ref01_Check 
theorem E_ref01_Check (p : Par) {F : Ent3} (hF : EntOk (cfg p) 65 F) : EntOk (cfg p) 65 (P_ref01_Check Sp.ref01_Check F) := by
  intro a s γ K q h
  unfold P_ref01_Check at h
  split at h
  · exact body_ok (tab_nil _) rfl ((e_ref01_Check p  _ _ _ _ _).trans h)
  · exact hF _ _ _ _ _ h
abbrev Ty_ref09_digit : Type 1 := Int → (γ : Type) → (Bool → Option γ) → Option γ
def P_ref09_digit (X : Ty_ref09_digit) (F : Ent3) : Ent3 := fun a s γ K => match a, s with
  | [AVal.dat (Dat.int IntKind.u8 v_c)], [] => X v_c γ (fun r0 => K ([(AVal.dat (Dat.bool r0), Own.none)], []))
  | a, s => F a s γ K
def T_ref09_digit  : CallK := noneK
def L_ref09_digit  : LoopK := noneL
def Sp.B_ref09_digit  (v_c : Int) (γ : Type) (K : Bool → Option γ) : Option γ := bif decide (48 ≤ v_c) then K (decide (v_c ≤ 57)) else K false
theorem e_ref09_digit (p : Par)  (v_c : Int) (γ : Type) (K : List Ent × Sig → Option γ) : evFK (cfg p) (T_ref09_digit ) (L_ref09_digit ) 74 [AVal.dat (Dat.int IntKind.u8 v_c)] [] γ K = Sp.B_ref09_digit  v_c γ (fun r0 => K ([(AVal.dat (Dat.bool r0), Own.none)], [])) := by kernel_rfl
def Sp.ref09_digit : Ty_ref09_digit := Sp.B_ref09_digit 
theorem E_ref09_digit (p : Par) {F : Ent3} (hF : EntOk (cfg p) 74 F) : EntOk (cfg p) 74 (P_ref09_digit Sp.ref09_digit F) := by
  intro a s γ K q h
  unfold P_ref09_digit at h
  split at h
  · exact body_ok (tab_nil _) rfl ((e_ref09_digit p  _ _ _).trans h)
  · exact hF _ _ _ _ _ h
abbrev Ty_ref09_Keys : Type 1 := (γ : Type) → (List (List Dat) → Option γ) → Option γ
def P_ref09_Keys (X : Ty_ref09_Keys) (F : Ent3) : Ent3 := fun a s γ K => match a, s with
  | [], [] => X  γ (fun r0 => K ([(AVal.dat (Dat.sl r0), Own.none)], []))
  | a, s => F a s γ K
def T_ref09_Keys  : CallK := noneK
def L_ref09_Keys  : LoopK := noneL
def Sp.B_ref09_Keys   (γ : Type) (K : List (List Dat) → Option γ) : Option γ := K [[Dat.str (bs [65, 76, 76])], [Dat.str (bs [65, 78, 68])], [Dat.str (bs [65, 78, 84, 73])], [Dat.str (bs [65, 83])], [Dat.str (bs [66, 89])], [Dat.str (bs [67, 79, 85, 78, 84])], [Dat.str (bs [68, 69, 83, 67])], [Dat.str (bs [68, 73, 83, 84, 73, 78, 67, 84])], [Dat.str (bs [70, 65, 76, 83, 69])], [Dat.str (bs [70, 82, 79, 77])], [Dat.str (bs [71, 82, 79, 85, 80])], [Dat.str (bs [73, 83])], [Dat.str (bs [74, 79, 73, 78])], [Dat.str (bs [76, 69, 70, 84])], [Dat.str (bs [76, 73, 77, 73, 84])], [Dat.str (bs [77, 65, 88])], [Dat.str (bs [77, 73, 78])], [Dat.str (bs [78, 79, 84])], [Dat.str (bs [78, 85, 76, 76])], [Dat.str (bs [79, 78])], [Dat.str (bs [79, 82])], [Dat.str (bs [79, 82, 68, 69, 82])], [Dat.str (bs [83, 69, 76, 69, 67, 84])], [Dat.str (bs [83, 69, 77, 73])], [Dat.str (bs [83, 85, 77])], [Dat.str (bs [84, 82, 85, 69])], [Dat.str (bs [85, 78, 73, 79, 78])], [Dat.str (bs [87, 72, 69, 82, 69])]]
theorem e_ref09_Keys (p : Par)   (γ : Type) (K : List Ent × Sig → Option γ) : evFK (cfg p) (T_ref09_Keys ) (L_ref09_Keys ) 83 [] [] γ K = Sp.B_ref09_Keys   γ (fun r0 => K ([(AVal.dat (Dat.sl r0), Own.none)], [])) := by kernel_rfl
def Sp.ref09_Keys : Ty_ref09_Keys := Sp.B_ref09_Keys 
theorem E_ref09_Keys (p : Par) {F : Ent3} (hF : EntOk (cfg p) 83 F) : EntOk (cfg p) 83 (P_ref09_Keys Sp.ref09_Keys F) := by
  intro a s γ K q h
  unfold P_ref09_Keys at h
  split at h
  · exact body_ok (tab_nil _) rfl ((e_ref09_Keys p  _ _ ).trans h)
  · exact hF _ _ _ _ _ h
abbrev Ty_ref09_Key_L0 : Type 1 := ByteArray → List (List Dat) → Bool → Int → (γ : Type) → (Ex → Bool → Int → Option γ) → Option γ
def P_ref09_Key_L0 (X : Ty_ref09_Key_L0) (F : Loop3) : Loop3 := fun a s γ K => match a, s with
  | [AVal.dat (Dat.str v_word), AVal.dat (Dat.sl v_l)], ([AVal.dat (Dat.bool v_), AVal.dat (Dat.int IntKind.i64 v_i)], []) => X v_word v_l v_ v_i γ (fun e x0 x1 => K (e, ([AVal.dat (Dat.bool x0), AVal.dat (Dat.int IntKind.i64 x1)], [])))
  | a, s => F a s γ K
def T_ref09_Key_L0  : CallK := noneK
def L_ref09_Key_L0  : LoopK := noneL
def Sp.B_ref09_Key_L0 (x_ref09_Key_L0 : Ty_ref09_Key_L0)  (v_word : ByteArray) (v_l : List (List Dat)) (v_ : Bool) (v_i : Int) (γ : Type) (K : Ex → Bool → Int → Option γ) : Option γ := bif decide (v_i < Int.ofNat (List.length v_l)) then elemAt v_l v_i fun (z6 : List Dat) => bif List.length z6 == 1 then cellAt z6 0 fun (z7 : Dat) => asStr z7 fun (z8 : ByteArray) => bif decide (z8 = v_word) then K Ex.ret true v_i else x_ref09_Key_L0 v_word v_l v_ (IntKind.wrap IntKind.i64 (v_i + 1)) γ K else none else K (Ex.exit 0) v_ v_i
theorem e_ref09_Key_L0 (p : Par) (x_ref09_Key_L0 : Ty_ref09_Key_L0)  (v_word : ByteArray) (v_l : List (List Dat)) (v_ : Bool) (v_i : Int) (γ : Type) (K : Ex × Vars → Option γ) : roundK (cfg p) (T_ref09_Key_L0 ) (L_ref09_Key_L0 ) 75 0 [AVal.dat (Dat.str v_word), AVal.dat (Dat.sl v_l)] ([AVal.dat (Dat.bool v_), AVal.dat (Dat.int IntKind.i64 v_i)], []) γ (contL (fun v => P_ref09_Key_L0 x_ref09_Key_L0 noneL3 [AVal.dat (Dat.str v_word), AVal.dat (Dat.sl v_l)] v γ K) K) = Sp.B_ref09_Key_L0 x_ref09_Key_L0  v_word v_l v_ v_i γ (fun e x0 x1 => K (e, ([AVal.dat (Dat.bool x0), AVal.dat (Dat.int IntKind.i64 x1)], []))) := by kernel_rfl
def Sp.ref09_Key_L0 : Nat → Ty_ref09_Key_L0
  | 0 => fun _ _ _ _ _ _ => none
  | n + 1 => Sp.B_ref09_Key_L0 (Sp.ref09_Key_L0 n) 
theorem E0_ref09_Key_L0 (p : Par)   : ∀ n, EntOkL (cfg p) 75 0 (P_ref09_Key_L0 (Sp.ref09_Key_L0  n) noneL3) := entL_rounds (tab_nil _) (by kernel_rfl) (fun c v γ K => by unfold P_ref09_Key_L0; split <;> rfl) fun n c v γ K q h => by
  unfold P_ref09_Key_L0 at h
  split at h
  · exact (e_ref09_Key_L0 p _  _ _ _ _ _ _).trans h
  · cases h
theorem E_ref09_Key_L0 (p : Par)   (n : Nat) {F : Loop3} (hF : EntOkL (cfg p) 75 0 F) : EntOkL (cfg p) 75 0 (P_ref09_Key_L0 (Sp.ref09_Key_L0  n) F) := by
  intro c v γ K q h
  unfold P_ref09_Key_L0 at h
  split at h
  · exact E0_ref09_Key_L0 p   n _ _ _ _ _ h
  · exact hF _ _ _ _ _ h
abbrev Ty_ref09_Key : Type 1 := ByteArray → (γ : Type) → (Bool → Option γ) → Option γ
def P_ref09_Key (X : Ty_ref09_Key) (F : Ent3) : Ent3 := fun a s γ K => match a, s with
  | [AVal.dat (Dat.str v_word)], [] => X v_word γ (fun r0 => K ([(AVal.dat (Dat.bool r0), Own.none)], []))
  | a, s => F a s γ K
def T_ref09_Key (x_ref09_Keys : Ty_ref09_Keys) (x_ref09_Key_L0 : Ty_ref09_Key_L0) : CallK := (addK noneK 83 (P_ref09_Keys x_ref09_Keys none3))
def L_ref09_Key (x_ref09_Keys : Ty_ref09_Keys) (x_ref09_Key_L0 : Ty_ref09_Key_L0) : LoopK := (addL noneL 75 0 (P_ref09_Key_L0 x_ref09_Key_L0 noneL3))
def Sp.B_ref09_Key (x_ref09_Keys : Ty_ref09_Keys) (x_ref09_Key_L0 : Ty_ref09_Key_L0) (v_word : ByteArray) (γ : Type) (K : Bool → Option γ) : Option γ := x_ref09_Keys γ fun (z3 : List (List Dat)) => x_ref09_Key_L0 v_word z3 false 0 γ fun (z4 : Ex) (z5 : Bool) (z6 : Int) => bif Ex.isExit z4 0 then K false else bif Ex.isRet z4 then K z5 else none
theorem e_ref09_Key (p : Par) (x_ref09_Keys : Ty_ref09_Keys) (x_ref09_Key_L0 : Ty_ref09_Key_L0) (v_word : ByteArray) (γ : Type) (K : List Ent × Sig → Option γ) : evFK (cfg p) (T_ref09_Key x_ref09_Keys x_ref09_Key_L0) (L_ref09_Key x_ref09_Keys x_ref09_Key_L0) 75 [AVal.dat (Dat.str v_word)] [] γ K = Sp.B_ref09_Key x_ref09_Keys x_ref09_Key_L0 v_word γ (fun r0 => K ([(AVal.dat (Dat.bool r0), Own.none)], [])) := by kernel_rfl
def Sp.ref09_Key : Ty_ref09_Key := Sp.B_ref09_Key Sp.ref09_Keys (Sp.ref09_Key_L0 fuel)
theorem E_ref09_Key (p : Par) {F : Ent3} (hF : EntOk (cfg p) 75 F) : EntOk (cfg p) 75 (P_ref09_Key Sp.ref09_Key F) := by
  intro a s γ K q h
  unfold P_ref09_Key at h
  split at h
  · exact body_ok (tab_loop (tab_call (tab_nil _) (E_ref09_Keys p (ent_none _ _))) (E_ref09_Key_L0 p fuel (entL_none _ _ _))) rfl ((e_ref09_Key p _ _ _ _ _).trans h)
  · exact hF _ _ _ _ _ h
abbrev Ty_ref09_letter : Type 1 := Int → (γ : Type) → (Bool → Option γ) → Option γ
def P_ref09_letter (X : Ty_ref09_letter) (F : Ent3) : Ent3 := fun a s γ K => match a, s with
  | [AVal.dat (Dat.int IntKind.u8 v_c)], [] => X v_c γ (fun r0 => K ([(AVal.dat (Dat.bool r0), Own.none)], []))
  | a, s => F a s γ K
def T_ref09_letter  : CallK := noneK
def L_ref09_letter  : LoopK := noneL
def Sp.B_ref09_letter  (v_c : Int) (γ : Type) (K : Bool → Option γ) : Option γ := bif decide (97 ≤ v_c) then bif decide (v_c ≤ 122) then K true else bif decide (65 ≤ v_c) then bif decide (v_c ≤ 90) then K true else K (decide (v_c = 95)) else K (decide (v_c = 95)) else bif decide (65 ≤ v_c) then bif decide (v_c ≤ 90) then K true else K (decide (v_c = 95)) else K (decide (v_c = 95))
theorem e_ref09_letter (p : Par)  (v_c : Int) (γ : Type) (K : List Ent × Sig → Option γ) : evFK (cfg p) (T_ref09_letter ) (L_ref09_letter ) 76 [AVal.dat (Dat.int IntKind.u8 v_c)] [] γ K = Sp.B_ref09_letter  v_c γ (fun r0 => K ([(AVal.dat (Dat.bool r0), Own.none)], [])) := by kernel_rfl
def Sp.ref09_letter : Ty_ref09_letter := Sp.B_ref09_letter 
theorem E_ref09_letter (p : Par) {F : Ent3} (hF : EntOk (cfg p) 76 F) : EntOk (cfg p) 76 (P_ref09_letter Sp.ref09_letter F) := by
  intro a s γ K q h
  unfold P_ref09_letter at h
  split at h
  · exact body_ok (tab_nil _) rfl ((e_ref09_letter p  _ _ _).trans h)
  · exact hF _ _ _ _ _ h
abbrev Ty_ref09_Name_L0 : Type 1 := ByteArray → Bool → Int → (γ : Type) → (Ex → Bool → Int → Option γ) → Option γ
def P_ref09_Name_L0 (X : Ty_ref09_Name_L0) (F : Loop3) : Loop3 := fun a s γ K => match a, s with
  | [AVal.dat (Dat.str v_s)], ([AVal.dat (Dat.bool v_), AVal.dat (Dat.int IntKind.i64 v_i)], []) => X v_s v_ v_i γ (fun e x0 x1 => K (e, ([AVal.dat (Dat.bool x0), AVal.dat (Dat.int IntKind.i64 x1)], [])))
  | a, s => F a s γ K
def T_ref09_Name_L0 (x_ref09_letter : Ty_ref09_letter) (x_ref09_digit : Ty_ref09_digit) : CallK := (addK (addK noneK 76 (P_ref09_letter x_ref09_letter none3)) 74 (P_ref09_digit x_ref09_digit none3))
def L_ref09_Name_L0 (x_ref09_letter : Ty_ref09_letter) (x_ref09_digit : Ty_ref09_digit) : LoopK := noneL
def Sp.B_ref09_Name_L0 (x_ref09_Name_L0 : Ty_ref09_Name_L0) (x_ref09_letter : Ty_ref09_letter) (x_ref09_digit : Ty_ref09_digit) (v_s : ByteArray) (v_ : Bool) (v_i : Int) (γ : Type) (K : Ex → Bool → Int → Option γ) : Option γ := bif decide (v_i < Int.ofNat (ByteArray.size v_s)) then byteAt v_s v_i fun (z5 : UInt8) => x_ref09_letter (Int.ofNat (BitVec.toFin (UInt8.toBitVec z5)).1) γ fun (z6 : Bool) => bif !z6 then byteAt v_s v_i fun (z7 : UInt8) => x_ref09_digit (Int.ofNat (BitVec.toFin (UInt8.toBitVec z7)).1) γ fun (z8 : Bool) => bif !z8 then K Ex.ret false v_i else x_ref09_Name_L0 v_s v_ (IntKind.wrap IntKind.i64 (v_i + 1)) γ K else x_ref09_Name_L0 v_s v_ (IntKind.wrap IntKind.i64 (v_i + 1)) γ K else K (Ex.exit 0) v_ v_i
theorem e_ref09_Name_L0 (p : Par) (x_ref09_Name_L0 : Ty_ref09_Name_L0) (x_ref09_letter : Ty_ref09_letter) (x_ref09_digit : Ty_ref09_digit) (v_s : ByteArray) (v_ : Bool) (v_i : Int) (γ : Type) (K : Ex × Vars → Option γ) : roundK (cfg p) (T_ref09_Name_L0 x_ref09_letter x_ref09_digit) (L_ref09_Name_L0 x_ref09_letter x_ref09_digit) 66 0 [AVal.dat (Dat.str v_s)] ([AVal.dat (Dat.bool v_), AVal.dat (Dat.int IntKind.i64 v_i)], []) γ (contL (fun v => P_ref09_Name_L0 x_ref09_Name_L0 noneL3 [AVal.dat (Dat.str v_s)] v γ K) K) = Sp.B_ref09_Name_L0 x_ref09_Name_L0 x_ref09_letter x_ref09_digit v_s v_ v_i γ (fun e x0 x1 => K (e, ([AVal.dat (Dat.bool x0), AVal.dat (Dat.int IntKind.i64 x1)], []))) := by kernel_rfl
def Sp.ref09_Name_L0 : Nat → Ty_ref09_Name_L0
  | 0 => fun _ _ _ _ _ => none
  | n + 1 => Sp.B_ref09_Name_L0 (Sp.ref09_Name_L0 n) Sp.ref09_letter Sp.ref09_digit
theorem E0_ref09_Name_L0 (p : Par)   : ∀ n, EntOkL (cfg p) 66 0 (P_ref09_Name_L0 (Sp.ref09_Name_L0  n) noneL3) := entL_rounds (tab_call (tab_call (tab_nil _) (E_ref09_letter p (ent_none _ _))) (E_ref09_digit p (ent_none _ _))) (by kernel_rfl) (fun c v γ K => by unfold P_ref09_Name_L0; split <;> rfl) fun n c v γ K q h => by
  unfold P_ref09_Name_L0 at h
  split at h
  · exact (e_ref09_Name_L0 p _ _ _ _ _ _ _ _).trans h
  · cases h
theorem E_ref09_Name_L0 (p : Par)   (n : Nat) {F : Loop3} (hF : EntOkL (cfg p) 66 0 F) : EntOkL (cfg p) 66 0 (P_ref09_Name_L0 (Sp.ref09_Name_L0  n) F) := by
  intro c v γ K q h
  unfold P_ref09_Name_L0 at h
  split at h
  · exact E0_ref09_Name_L0 p   n _ _ _ _ _ h
  · exact hF _ _ _ _ _ h
abbrev Ty_ref09_Name : Type 1 := ByteArray → (γ : Type) → (Bool → Option γ) → Option γ
def P_ref09_Name (X : Ty_ref09_Name) (F : Ent3) : Ent3 := fun a s γ K => match a, s with
  | [AVal.dat (Dat.str v_s)], [] => X v_s γ (fun r0 => K ([(AVal.dat (Dat.bool r0), Own.none)], []))
  | a, s => F a s γ K
def T_ref09_Name (x_ref09_digit : Ty_ref09_digit) (x_ref09_Key : Ty_ref09_Key) (x_ref09_Name_L0 : Ty_ref09_Name_L0) : CallK := (addK (addK noneK 74 (P_ref09_digit x_ref09_digit none3)) 75 (P_ref09_Key x_ref09_Key none3))
def L_ref09_Name (x_ref09_digit : Ty_ref09_digit) (x_ref09_Key : Ty_ref09_Key) (x_ref09_Name_L0 : Ty_ref09_Name_L0) : LoopK := (addL noneL 66 0 (P_ref09_Name_L0 x_ref09_Name_L0 noneL3))
def Sp.B_ref09_Name (x_ref09_digit : Ty_ref09_digit) (x_ref09_Key : Ty_ref09_Key) (x_ref09_Name_L0 : Ty_ref09_Name_L0) (v_s : ByteArray) (γ : Type) (K : Bool → Option γ) : Option γ := bif decide (Int.ofNat (ByteArray.size v_s) < 1) then K false else bif decide (24 < Int.ofNat (ByteArray.size v_s)) then K false else byteAt v_s 0 fun (z3 : UInt8) => x_ref09_digit (Int.ofNat (BitVec.toFin (UInt8.toBitVec z3)).1) γ fun (z4 : Bool) => bif z4 then K false else x_ref09_Key v_s γ fun (z5 : Bool) => bif z5 then K false else x_ref09_Name_L0 v_s false 0 γ fun (z6 : Ex) (z7 : Bool) (z8 : Int) => bif Ex.isExit z6 0 then K true else bif Ex.isRet z6 then K z7 else none
theorem e_ref09_Name (p : Par) (x_ref09_digit : Ty_ref09_digit) (x_ref09_Key : Ty_ref09_Key) (x_ref09_Name_L0 : Ty_ref09_Name_L0) (v_s : ByteArray) (γ : Type) (K : List Ent × Sig → Option γ) : evFK (cfg p) (T_ref09_Name x_ref09_digit x_ref09_Key x_ref09_Name_L0) (L_ref09_Name x_ref09_digit x_ref09_Key x_ref09_Name_L0) 66 [AVal.dat (Dat.str v_s)] [] γ K = Sp.B_ref09_Name x_ref09_digit x_ref09_Key x_ref09_Name_L0 v_s γ (fun r0 => K ([(AVal.dat (Dat.bool r0), Own.none)], [])) := by kernel_rfl
def Sp.ref09_Name : Ty_ref09_Name := Sp.B_ref09_Name Sp.ref09_digit Sp.ref09_Key (Sp.ref09_Name_L0 fuel)
theorem E_ref09_Name (p : Par) {F : Ent3} (hF : EntOk (cfg p) 66 F) : EntOk (cfg p) 66 (P_ref09_Name Sp.ref09_Name F) := by
  intro a s γ K q h
  unfold P_ref09_Name at h
  split at h
  · exact body_ok (tab_loop (tab_call (tab_call (tab_nil _) (E_ref09_digit p (ent_none _ _))) (E_ref09_Key p (ent_none _ _))) (E_ref09_Name_L0 p fuel (entL_none _ _ _))) rfl ((e_ref09_Name p _ _ _ _ _ _).trans h)
  · exact hF _ _ _ _ _ h
abbrev Ty_ref10_Arity : Type 1 := Int → (γ : Type) → (Int → Option γ) → Option γ
def P_ref10_Arity (X : Ty_ref10_Arity) (F : Ent3) : Ent3 := fun a s γ K => match a, s with
  | [AVal.dat (Dat.int IntKind.i64 v_op)], [] => X v_op γ (fun r0 => K ([(AVal.dat (Dat.int IntKind.i64 r0), Own.none)], []))
  | a, s => F a s γ K
def T_ref10_Arity  : CallK := noneK
def L_ref10_Arity  : LoopK := noneL
def Sp.B_ref10_Arity  (v_op : Int) (γ : Type) (K : Int → Option γ) : Option γ := bif decide (v_op = 3) then bif decide (v_op = 3) then K 1 else bif decide (1 ≤ v_op) then bif decide (v_op ≤ 17) then K 2 else K 0 else K 0 else bif decide (v_op = 15) then bif decide (v_op = 15) then K 1 else bif decide (1 ≤ v_op) then bif decide (v_op ≤ 17) then K 2 else K 0 else K 0 else bif decide (v_op = 16) then bif decide (v_op = 16) then K 1 else bif decide (1 ≤ v_op) then bif decide (v_op ≤ 17) then K 2 else K 0 else K 0 else bif decide (v_op = 17) then K 1 else bif decide (1 ≤ v_op) then bif decide (v_op ≤ 17) then K 2 else K 0 else K 0
theorem e_ref10_Arity (p : Par)  (v_op : Int) (γ : Type) (K : List Ent × Sig → Option γ) : evFK (cfg p) (T_ref10_Arity ) (L_ref10_Arity ) 67 [AVal.dat (Dat.int IntKind.i64 v_op)] [] γ K = Sp.B_ref10_Arity  v_op γ (fun r0 => K ([(AVal.dat (Dat.int IntKind.i64 r0), Own.none)], [])) := by kernel_rfl
def Sp.ref10_Arity : Ty_ref10_Arity := Sp.B_ref10_Arity 
theorem E_ref10_Arity (p : Par) {F : Ent3} (hF : EntOk (cfg p) 67 F) : EntOk (cfg p) 67 (P_ref10_Arity Sp.ref10_Arity F) := by
  intro a s γ K q h
  unfold P_ref10_Arity at h
  split at h
  · exact body_ok (tab_nil _) rfl ((e_ref10_Arity p  _ _ _).trans h)
  · exact hF _ _ _ _ _ h
abbrev Ty_ref10_one : Type 1 := Int → Int → Int → Int → ByteArray → ByteArray → ByteArray → List (List Dat) → Bool → (γ : Type) → (Bool → Option γ) → Option γ
def P_ref10_one (X : Ty_ref10_one) (F : Ent3) : Ent3 := fun a s γ K => match a, s with
  | [AVal.agg [(Dat.int IntKind.i64 v_e0, Own.none), (Dat.int IntKind.i64 v_e1, Own.none), (Dat.int IntKind.i64 v_e2, Own.none), (Dat.int IntKind.i64 v_e3, Own.none), (Dat.str v_e4, Own.none), (Dat.str v_e5, Own.none), (Dat.str v_e6, Own.none), (Dat.sl v_e7, Own.none)], AVal.dat (Dat.bool v_agg)], [] => X v_e0 v_e1 v_e2 v_e3 v_e4 v_e5 v_e6 v_e7 v_agg γ (fun r0 => K ([(AVal.dat (Dat.bool r0), Own.none)], []))
  | a, s => F a s γ K
def T_ref10_one (x_ref01_Check : Ty_ref01_Check) (x_ref09_Name : Ty_ref09_Name) (x_ref10_Arity : Ty_ref10_Arity) : CallK := (addK (addK (addK noneK 65 (P_ref01_Check x_ref01_Check none3)) 66 (P_ref09_Name x_ref09_Name none3)) 67 (P_ref10_Arity x_ref10_Arity none3))
def L_ref10_one (x_ref01_Check : Ty_ref01_Check) (x_ref09_Name : Ty_ref09_Name) (x_ref10_Arity : Ty_ref10_Arity) : LoopK := noneL
def Sp.B_ref10_one (x_ref01_Check : Ty_ref01_Check) (x_ref09_Name : Ty_ref09_Name) (x_ref10_Arity : Ty_ref10_Arity) (v_e0 : Int) (v_e1 : Int) (v_e2 : Int) (v_e3 : Int) (v_e4 : ByteArray) (v_e5 : ByteArray) (v_e6 : ByteArray) (v_e7 : List (List Dat)) (v_agg : Bool) (γ : Type) (K : Bool → Option γ) : Option γ := bif decide (v_e0 = 1) then bif decide (v_e1 = 0) then bif decide (v_e5 = bs []) then bif decide (v_e6 = bs []) then bif decide (Int.ofNat (List.length v_e7) = 0) then x_ref01_Check v_e2 v_e3 v_e4 γ fun (z11 : Bool) => bif z11 then bif !decide (v_e2 = 2) then K true else K (decide (0 ≤ v_e3)) else K false else K false else K false else K false else K false else bif decide (v_e0 = 2) then bif decide (0 ≤ v_e1) then bif decide (v_e1 < 32) then bif decide (v_e2 = 0) && (decide (v_e3 = 0) && (decide (v_e4 = bs []) && true)) then bif decide (Int.ofNat (List.length v_e7) = 0) then x_ref09_Name v_e6 γ fun (z12 : Bool) => bif z12 then bif decide (v_e5 = bs []) then K true else x_ref09_Name v_e5 γ fun (z13 : Bool) => K z13 else K false else K false else K false else K false else K false else bif decide (v_e0 = 3) then bif decide (v_e2 = 0) && (decide (v_e3 = 0) && (decide (v_e4 = bs []) && true)) then bif decide (v_e5 = bs []) then bif decide (v_e6 = bs []) then x_ref10_Arity v_e1 γ fun (z14 : Int) => bif decide (0 < z14) then x_ref10_Arity v_e1 γ fun (z15 : Int) => K (decide (Int.ofNat (List.length v_e7) = z15)) else K false else K false else K false else K false else bif decide (v_e0 = 4) then bif !v_agg then bif decide (v_e2 = 0) && (decide (v_e3 = 0) && (decide (v_e4 = bs []) && true)) then bif decide (v_e5 = bs []) then bif decide (v_e6 = bs []) then bif decide (1 ≤ v_e1) then bif decide (v_e1 ≤ 5) then bif decide (v_e1 = 1) == decide (Int.ofNat (List.length v_e7) = 0) then K (decide (Int.ofNat (List.length v_e7) ≤ 1)) else K false else K false else K false else K false else K false else K false else K false else K false
theorem e_ref10_one (p : Par) (x_ref01_Check : Ty_ref01_Check) (x_ref09_Name : Ty_ref09_Name) (x_ref10_Arity : Ty_ref10_Arity) (v_e0 : Int) (v_e1 : Int) (v_e2 : Int) (v_e3 : Int) (v_e4 : ByteArray) (v_e5 : ByteArray) (v_e6 : ByteArray) (v_e7 : List (List Dat)) (v_agg : Bool) (γ : Type) (K : List Ent × Sig → Option γ) : evFK (cfg p) (T_ref10_one x_ref01_Check x_ref09_Name x_ref10_Arity) (L_ref10_one x_ref01_Check x_ref09_Name x_ref10_Arity) 52 [AVal.agg [(Dat.int IntKind.i64 v_e0, Own.none), (Dat.int IntKind.i64 v_e1, Own.none), (Dat.int IntKind.i64 v_e2, Own.none), (Dat.int IntKind.i64 v_e3, Own.none), (Dat.str v_e4, Own.none), (Dat.str v_e5, Own.none), (Dat.str v_e6, Own.none), (Dat.sl v_e7, Own.none)], AVal.dat (Dat.bool v_agg)] [] γ K = Sp.B_ref10_one x_ref01_Check x_ref09_Name x_ref10_Arity v_e0 v_e1 v_e2 v_e3 v_e4 v_e5 v_e6 v_e7 v_agg γ (fun r0 => K ([(AVal.dat (Dat.bool r0), Own.none)], [])) := by kernel_rfl
def Sp.ref10_one : Ty_ref10_one := Sp.B_ref10_one Sp.ref01_Check Sp.ref09_Name Sp.ref10_Arity
theorem E_ref10_one (p : Par) {F : Ent3} (hF : EntOk (cfg p) 52 F) : EntOk (cfg p) 52 (P_ref10_one Sp.ref10_one F) := by
  intro a s γ K q h
  unfold P_ref10_one at h
  split at h
  · exact body_ok (tab_call (tab_call (tab_call (tab_nil _) (E_ref01_Check p (ent_none _ _))) (E_ref09_Name p (ent_none _ _))) (E_ref10_Arity p (ent_none _ _))) rfl ((e_ref10_one p _ _ _ _ _ _ _ _ _ _ _ _ _ _).trans h)
  · exact hF _ _ _ _ _ h
abbrev Ty_ref10_walk : Type 1 := Int → Int → Int → Int → ByteArray → ByteArray → ByteArray → List (List Dat) → Int → Bool → (γ : Type) → (Int → Bool → Option γ) → Option γ
def P_ref10_walk (X : Ty_ref10_walk) (F : Ent3) : Ent3 := fun a s γ K => match a, s with
  | [AVal.agg [(Dat.int IntKind.i64 v_e0, Own.none), (Dat.int IntKind.i64 v_e1, Own.none), (Dat.int IntKind.i64 v_e2, Own.none), (Dat.int IntKind.i64 v_e3, Own.none), (Dat.str v_e4, Own.none), (Dat.str v_e5, Own.none), (Dat.str v_e6, Own.none), (Dat.sl v_e7, Own.none)], AVal.dat (Dat.int IntKind.i64 v_deep), AVal.dat (Dat.bool v_agg)], [] => X v_e0 v_e1 v_e2 v_e3 v_e4 v_e5 v_e6 v_e7 v_deep v_agg γ (fun r0 r1 => K ([(AVal.dat (Dat.int IntKind.i64 r0), Own.none), (AVal.dat (Dat.bool r1), Own.none)], []))
  | a, s => F a s γ K
abbrev Ty_ref10_walk_L0 : Type 1 := Int → Bool → Int → Bool → Int → Int → Int → Int → Int → Int → ByteArray → ByteArray → ByteArray → List (List Dat) → (γ : Type) → (Ex → Int → Bool → Int → Int → Int → Int → Int → Int → ByteArray → ByteArray → ByteArray → List (List Dat) → Option γ) → Option γ
def P_ref10_walk_L0 (X : Ty_ref10_walk_L0) (F : Loop3) : Loop3 := fun a s γ K => match a, s with
  | [AVal.dat (Dat.int IntKind.i64 v_deep), AVal.dat (Dat.bool v_agg), AVal.loc 3 0], ([AVal.dat (Dat.int IntKind.i64 v_), AVal.dat (Dat.bool v__1), AVal.dat (Dat.int IntKind.i64 v_n), AVal.dat (Dat.int IntKind.i64 v_i), AVal.agg [(Dat.int IntKind.i64 v_box0, Own.none), (Dat.int IntKind.i64 v_box1, Own.none), (Dat.int IntKind.i64 v_box2, Own.none), (Dat.int IntKind.i64 v_box3, Own.none), (Dat.str v_box4, Own.none), (Dat.str v_box5, Own.none), (Dat.str v_box6, Own.none), (Dat.sl v_box7, Own.none)]], []) => X v_deep v_agg v_ v__1 v_n v_i v_box0 v_box1 v_box2 v_box3 v_box4 v_box5 v_box6 v_box7 γ (fun e x0 x1 x2 x3 x4 x5 x6 x7 x8 x9 x10 x11 => K (e, ([AVal.dat (Dat.int IntKind.i64 x0), AVal.dat (Dat.bool x1), AVal.dat (Dat.int IntKind.i64 x2), AVal.dat (Dat.int IntKind.i64 x3), AVal.agg [(Dat.int IntKind.i64 x4, Own.none), (Dat.int IntKind.i64 x5, Own.none), (Dat.int IntKind.i64 x6, Own.none), (Dat.int IntKind.i64 x7, Own.none), (Dat.str x8, Own.none), (Dat.str x9, Own.none), (Dat.str x10, Own.none), (Dat.sl x11, Own.none)]], [])))
  | a, s => F a s γ K
def T_ref10_walk_L0 (x_ref10_walk : Ty_ref10_walk) : CallK := (addK noneK 40 (P_ref10_walk x_ref10_walk none3))
def L_ref10_walk_L0 (x_ref10_walk : Ty_ref10_walk) : LoopK := noneL
def Sp.B_ref10_walk_L0 (x_ref10_walk_L0 : Ty_ref10_walk_L0) (x_ref10_walk : Ty_ref10_walk) (v_deep : Int) (v_agg : Bool) (v_ : Int) (v__1 : Bool) (v_n : Int) (v_i : Int) (v_box0 : Int) (v_box1 : Int) (v_box2 : Int) (v_box3 : Int) (v_box4 : ByteArray) (v_box5 : ByteArray) (v_box6 : ByteArray) (v_box7 : List (List Dat)) (γ : Type) (K : Ex → Int → Bool → Int → Int → Int → Int → Int → Int → ByteArray → ByteArray → ByteArray → List (List Dat) → Option γ) : Option γ := bif decide (v_i < Int.ofNat (List.length v_box7)) then elemAt v_box7 v_i fun (z16 : List Dat) => bif List.length z16 == 8 then cellAt z16 0 fun (z17 : Dat) => Aev.asInt IntKind.i64 z17 fun (z18 : Int) => cellAt z16 1 fun (z19 : Dat) => Aev.asInt IntKind.i64 z19 fun (z20 : Int) => cellAt z16 2 fun (z21 : Dat) => Aev.asInt IntKind.i64 z21 fun (z22 : Int) => cellAt z16 3 fun (z23 : Dat) => Aev.asInt IntKind.i64 z23 fun (z24 : Int) => cellAt z16 4 fun (z25 : Dat) => asStr z25 fun (z26 : ByteArray) => cellAt z16 5 fun (z27 : Dat) => asStr z27 fun (z28 : ByteArray) => cellAt z16 6 fun (z29 : Dat) => asStr z29 fun (z30 : ByteArray) => cellAt z16 7 fun (z31 : Dat) => asSl z31 fun (z32 : List (List Dat)) => bif v_agg then x_ref10_walk z18 z20 z22 z24 z26 z28 z30 z32 (IntKind.wrap IntKind.i64 (v_deep + 1)) true γ fun (z33 : Int) (z34 : Bool) => bif !z34 then K Ex.ret 0 false (IntKind.wrap IntKind.i64 (v_n + z33)) v_i v_box0 v_box1 v_box2 v_box3 v_box4 v_box5 v_box6 v_box7 else bif decide (512 < IntKind.wrap IntKind.i64 (v_n + z33)) then K Ex.ret 0 false (IntKind.wrap IntKind.i64 (v_n + z33)) v_i v_box0 v_box1 v_box2 v_box3 v_box4 v_box5 v_box6 v_box7 else x_ref10_walk_L0 v_deep v_agg v_ v__1 (IntKind.wrap IntKind.i64 (v_n + z33)) (IntKind.wrap IntKind.i64 (v_i + 1)) v_box0 v_box1 v_box2 v_box3 v_box4 v_box5 v_box6 v_box7 γ K else x_ref10_walk z18 z20 z22 z24 z26 z28 z30 z32 (IntKind.wrap IntKind.i64 (v_deep + 1)) (decide (v_box0 = 4)) γ fun (z35 : Int) (z36 : Bool) => bif !z36 then K Ex.ret 0 false (IntKind.wrap IntKind.i64 (v_n + z35)) v_i v_box0 v_box1 v_box2 v_box3 v_box4 v_box5 v_box6 v_box7 else bif decide (512 < IntKind.wrap IntKind.i64 (v_n + z35)) then K Ex.ret 0 false (IntKind.wrap IntKind.i64 (v_n + z35)) v_i v_box0 v_box1 v_box2 v_box3 v_box4 v_box5 v_box6 v_box7 else x_ref10_walk_L0 v_deep v_agg v_ v__1 (IntKind.wrap IntKind.i64 (v_n + z35)) (IntKind.wrap IntKind.i64 (v_i + 1)) v_box0 v_box1 v_box2 v_box3 v_box4 v_box5 v_box6 v_box7 γ K else none else K (Ex.exit 0) v_ v__1 v_n v_i v_box0 v_box1 v_box2 v_box3 v_box4 v_box5 v_box6 v_box7
theorem e_ref10_walk_L0 (p : Par) (x_ref10_walk_L0 : Ty_ref10_walk_L0) (x_ref10_walk : Ty_ref10_walk) (v_deep : Int) (v_agg : Bool) (v_ : Int) (v__1 : Bool) (v_n : Int) (v_i : Int) (v_box0 : Int) (v_box1 : Int) (v_box2 : Int) (v_box3 : Int) (v_box4 : ByteArray) (v_box5 : ByteArray) (v_box6 : ByteArray) (v_box7 : List (List Dat)) (γ : Type) (K : Ex × Vars → Option γ) : roundK (cfg p) (T_ref10_walk_L0 x_ref10_walk) (L_ref10_walk_L0 x_ref10_walk) 40 0 [AVal.dat (Dat.int IntKind.i64 v_deep), AVal.dat (Dat.bool v_agg), AVal.loc 3 0] ([AVal.dat (Dat.int IntKind.i64 v_), AVal.dat (Dat.bool v__1), AVal.dat (Dat.int IntKind.i64 v_n), AVal.dat (Dat.int IntKind.i64 v_i), AVal.agg [(Dat.int IntKind.i64 v_box0, Own.none), (Dat.int IntKind.i64 v_box1, Own.none), (Dat.int IntKind.i64 v_box2, Own.none), (Dat.int IntKind.i64 v_box3, Own.none), (Dat.str v_box4, Own.none), (Dat.str v_box5, Own.none), (Dat.str v_box6, Own.none), (Dat.sl v_box7, Own.none)]], []) γ (contL (fun v => P_ref10_walk_L0 x_ref10_walk_L0 noneL3 [AVal.dat (Dat.int IntKind.i64 v_deep), AVal.dat (Dat.bool v_agg), AVal.loc 3 0] v γ K) K) = Sp.B_ref10_walk_L0 x_ref10_walk_L0 x_ref10_walk v_deep v_agg v_ v__1 v_n v_i v_box0 v_box1 v_box2 v_box3 v_box4 v_box5 v_box6 v_box7 γ (fun e x0 x1 x2 x3 x4 x5 x6 x7 x8 x9 x10 x11 => K (e, ([AVal.dat (Dat.int IntKind.i64 x0), AVal.dat (Dat.bool x1), AVal.dat (Dat.int IntKind.i64 x2), AVal.dat (Dat.int IntKind.i64 x3), AVal.agg [(Dat.int IntKind.i64 x4, Own.none), (Dat.int IntKind.i64 x5, Own.none), (Dat.int IntKind.i64 x6, Own.none), (Dat.int IntKind.i64 x7, Own.none), (Dat.str x8, Own.none), (Dat.str x9, Own.none), (Dat.str x10, Own.none), (Dat.sl x11, Own.none)]], []))) := by kernel_rfl
def T_ref10_walk (x_ref10_one : Ty_ref10_one) (x_ref10_walk_L0 : Ty_ref10_walk_L0) : CallK := (addK noneK 52 (P_ref10_one x_ref10_one none3))
def L_ref10_walk (x_ref10_one : Ty_ref10_one) (x_ref10_walk_L0 : Ty_ref10_walk_L0) : LoopK := (addL noneL 40 0 (P_ref10_walk_L0 x_ref10_walk_L0 noneL3))
def Sp.B_ref10_walk (x_ref10_one : Ty_ref10_one) (x_ref10_walk_L0 : Ty_ref10_walk_L0) (v_e0 : Int) (v_e1 : Int) (v_e2 : Int) (v_e3 : Int) (v_e4 : ByteArray) (v_e5 : ByteArray) (v_e6 : ByteArray) (v_e7 : List (List Dat)) (v_deep : Int) (v_agg : Bool) (γ : Type) (K : Int → Bool → Option γ) : Option γ := bif decide (32 < v_deep) then K 0 false else x_ref10_one v_e0 v_e1 v_e2 v_e3 v_e4 v_e5 v_e6 v_e7 v_agg γ fun (z12 : Bool) => bif !z12 then K 0 false else x_ref10_walk_L0 v_deep v_agg 0 false 1 0 v_e0 v_e1 v_e2 v_e3 v_e4 v_e5 v_e6 v_e7 γ fun (z13 : Ex) (z14 : Int) (z15 : Bool) (z16 z17 z18 z19 z20 z21 : Int) (z22 z23 z24 : ByteArray) (z25 : List (List Dat)) => bif Ex.isExit z13 0 then K z16 true else bif Ex.isRet z13 then K z14 z15 else none
theorem e_ref10_walk (p : Par) (x_ref10_one : Ty_ref10_one) (x_ref10_walk_L0 : Ty_ref10_walk_L0) (v_e0 : Int) (v_e1 : Int) (v_e2 : Int) (v_e3 : Int) (v_e4 : ByteArray) (v_e5 : ByteArray) (v_e6 : ByteArray) (v_e7 : List (List Dat)) (v_deep : Int) (v_agg : Bool) (γ : Type) (K : List Ent × Sig → Option γ) : evFK (cfg p) (T_ref10_walk x_ref10_one x_ref10_walk_L0) (L_ref10_walk x_ref10_one x_ref10_walk_L0) 40 [AVal.agg [(Dat.int IntKind.i64 v_e0, Own.none), (Dat.int IntKind.i64 v_e1, Own.none), (Dat.int IntKind.i64 v_e2, Own.none), (Dat.int IntKind.i64 v_e3, Own.none), (Dat.str v_e4, Own.none), (Dat.str v_e5, Own.none), (Dat.str v_e6, Own.none), (Dat.sl v_e7, Own.none)], AVal.dat (Dat.int IntKind.i64 v_deep), AVal.dat (Dat.bool v_agg)] [] γ K = Sp.B_ref10_walk x_ref10_one x_ref10_walk_L0 v_e0 v_e1 v_e2 v_e3 v_e4 v_e5 v_e6 v_e7 v_deep v_agg γ (fun r0 r1 => K ([(AVal.dat (Dat.int IntKind.i64 r0), Own.none), (AVal.dat (Dat.bool r1), Own.none)], [])) := by kernel_rfl
def Sp.ref10_walk_L0 (R_ref10_walk : Ty_ref10_walk) : Nat → Ty_ref10_walk_L0
  | 0 => fun _ _ _ _ _ _ _ _ _ _ _ _ _ _ _ _ => none
  | n + 1 => Sp.B_ref10_walk_L0 (Sp.ref10_walk_L0 R_ref10_walk n) R_ref10_walk
theorem E0_ref10_walk_L0 (p : Par) (R_ref10_walk : Ty_ref10_walk) (h_ref10_walk : ∀ {F : Ent3}, EntOk (cfg p) 40 F → EntOk (cfg p) 40 (P_ref10_walk R_ref10_walk F)) : ∀ n, EntOkL (cfg p) 40 0 (P_ref10_walk_L0 (Sp.ref10_walk_L0 R_ref10_walk n) noneL3) := entL_rounds (tab_call (tab_nil _) (h_ref10_walk (ent_none _ _))) (by kernel_rfl) (fun c v γ K => by unfold P_ref10_walk_L0; split <;> rfl) fun n c v γ K q h => by
  unfold P_ref10_walk_L0 at h
  split at h
  · exact (e_ref10_walk_L0 p _ _ _ _ _ _ _ _ _ _ _ _ _ _ _ _ _ _).trans h
  · cases h
theorem E_ref10_walk_L0 (p : Par) (R_ref10_walk : Ty_ref10_walk) (h_ref10_walk : ∀ {F : Ent3}, EntOk (cfg p) 40 F → EntOk (cfg p) 40 (P_ref10_walk R_ref10_walk F)) (n : Nat) {F : Loop3} (hF : EntOkL (cfg p) 40 0 F) : EntOkL (cfg p) 40 0 (P_ref10_walk_L0 (Sp.ref10_walk_L0 R_ref10_walk n) F) := by
  intro c v γ K q h
  unfold P_ref10_walk_L0 at h
  split at h
  · exact E0_ref10_walk_L0 p R_ref10_walk h_ref10_walk n _ _ _ _ _ h
  · exact hF _ _ _ _ _ h
def Sp.ref10_walk : Nat → Ty_ref10_walk
  | 0 => fun _ _ _ _ _ _ _ _ _ _ _ _ => none
  | n + 1 => Sp.B_ref10_walk Sp.ref10_one (Sp.ref10_walk_L0 (Sp.ref10_walk n) fuel)
theorem G107_ok (p : Par) (n : Nat) : (∀ {F : Ent3}, EntOk (cfg p) 40 F → EntOk (cfg p) 40 (P_ref10_walk (Sp.ref10_walk n) F)) := by
  induction n with
  | zero =>
    refine ?_
    · intro F hF a s γ K q h
      unfold P_ref10_walk at h
      split at h
      · cases h
      · exact hF _ _ _ _ _ h
  | succ n ih =>
    refine ?_
    · intro F hF a s γ K q h
      unfold P_ref10_walk at h
      split at h
      · exact body_ok (tab_loop (tab_call (tab_nil _) (E_ref10_one p (ent_none _ _))) (E_ref10_walk_L0 p (Sp.ref10_walk n) ih fuel (entL_none _ _ _))) rfl ((e_ref10_walk p _ _ _ _ _ _ _ _ _ _ _ _ _ _).trans h)
      · exact hF _ _ _ _ _ h
theorem E_ref10_walk (p : Par) (n : Nat) {F : Ent3} (hF : EntOk (cfg p) 40 F) : EntOk (cfg p) 40 (P_ref10_walk (Sp.ref10_walk n) F) := (G107_ok p n) hF
abbrev Ty_ref10_Check : Type 1 := Int → Int → Int → Int → ByteArray → ByteArray → ByteArray → List (List Dat) → (γ : Type) → (Bool → Option γ) → Option γ
def P_ref10_Check (X : Ty_ref10_Check) (F : Ent3) : Ent3 := fun a s γ K => match a, s with
  | [AVal.agg [(Dat.int IntKind.i64 v_e0, Own.none), (Dat.int IntKind.i64 v_e1, Own.none), (Dat.int IntKind.i64 v_e2, Own.none), (Dat.int IntKind.i64 v_e3, Own.none), (Dat.str v_e4, Own.none), (Dat.str v_e5, Own.none), (Dat.str v_e6, Own.none), (Dat.sl v_e7, Own.none)]], [] => X v_e0 v_e1 v_e2 v_e3 v_e4 v_e5 v_e6 v_e7 γ (fun r0 => K ([(AVal.dat (Dat.bool r0), Own.none)], []))
  | a, s => F a s γ K
def T_ref10_Check (x_ref10_walk : Ty_ref10_walk) : CallK := (addK noneK 40 (P_ref10_walk x_ref10_walk none3))
def L_ref10_Check (x_ref10_walk : Ty_ref10_walk) : LoopK := noneL
def Sp.B_ref10_Check (x_ref10_walk : Ty_ref10_walk) (v_e0 : Int) (v_e1 : Int) (v_e2 : Int) (v_e3 : Int) (v_e4 : ByteArray) (v_e5 : ByteArray) (v_e6 : ByteArray) (v_e7 : List (List Dat)) (γ : Type) (K : Bool → Option γ) : Option γ := x_ref10_walk v_e0 v_e1 v_e2 v_e3 v_e4 v_e5 v_e6 v_e7 1 false γ fun (z10 : Int) (z11 : Bool) => K z11
theorem e_ref10_Check (p : Par) (x_ref10_walk : Ty_ref10_walk) (v_e0 : Int) (v_e1 : Int) (v_e2 : Int) (v_e3 : Int) (v_e4 : ByteArray) (v_e5 : ByteArray) (v_e6 : ByteArray) (v_e7 : List (List Dat)) (γ : Type) (K : List Ent × Sig → Option γ) : evFK (cfg p) (T_ref10_Check x_ref10_walk) (L_ref10_Check x_ref10_walk) 26 [AVal.agg [(Dat.int IntKind.i64 v_e0, Own.none), (Dat.int IntKind.i64 v_e1, Own.none), (Dat.int IntKind.i64 v_e2, Own.none), (Dat.int IntKind.i64 v_e3, Own.none), (Dat.str v_e4, Own.none), (Dat.str v_e5, Own.none), (Dat.str v_e6, Own.none), (Dat.sl v_e7, Own.none)]] [] γ K = Sp.B_ref10_Check x_ref10_walk v_e0 v_e1 v_e2 v_e3 v_e4 v_e5 v_e6 v_e7 γ (fun r0 => K ([(AVal.dat (Dat.bool r0), Own.none)], [])) := by kernel_rfl
def Sp.ref10_Check : Ty_ref10_Check := Sp.B_ref10_Check (Sp.ref10_walk fuel)
theorem E_ref10_Check (p : Par) {F : Ent3} (hF : EntOk (cfg p) 26 F) : EntOk (cfg p) 26 (P_ref10_Check Sp.ref10_Check F) := by
  intro a s γ K q h
  unfold P_ref10_Check at h
  split at h
  · exact body_ok (tab_call (tab_nil _) (E_ref10_walk p fuel (ent_none _ _))) rfl ((e_ref10_Check p _ _ _ _ _ _ _ _ _ _ _).trans h)
  · exact hF _ _ _ _ _ h
abbrev Ty_ref10_Kinds : Type 1 := Int → Int → Int → Int → ByteArray → ByteArray → ByteArray → List (List Dat) → Int → (γ : Type) → (List (List Dat) → Option γ) → Option γ
def P_ref10_Kinds (X : Ty_ref10_Kinds) (F : Ent3) : Ent3 := fun a s γ K => match a, s with
  | [AVal.agg [(Dat.int IntKind.i64 v_e0, Own.none), (Dat.int IntKind.i64 v_e1, Own.none), (Dat.int IntKind.i64 v_e2, Own.none), (Dat.int IntKind.i64 v_e3, Own.none), (Dat.str v_e4, Own.none), (Dat.str v_e5, Own.none), (Dat.str v_e6, Own.none), (Dat.sl v_e7, Own.none)], AVal.dat (Dat.int IntKind.i64 v_kind)], [] => X v_e0 v_e1 v_e2 v_e3 v_e4 v_e5 v_e6 v_e7 v_kind γ (fun r0 => K ([(AVal.dat (Dat.sl r0), Own.id 0 8)], []))
  | a, s => F a s γ K
abbrev Ty_ref10_Kinds_L0 : Type 1 := Int → List (List Dat) → Int → Int → Int → Int → Int → ByteArray → ByteArray → ByteArray → List (List Dat) → (γ : Type) → (Ex → List (List Dat) → Int → Int → Int → Int → Int → ByteArray → ByteArray → ByteArray → List (List Dat) → Option γ) → Option γ
def P_ref10_Kinds_L0 (X : Ty_ref10_Kinds_L0) (F : Loop3) : Loop3 := fun a s γ K => match a, s with
  | [AVal.dat (Dat.int IntKind.i64 v_kind), AVal.loc 2 0], ([AVal.dat (Dat.sl v_out), AVal.dat (Dat.int IntKind.i64 v_i), AVal.agg [(Dat.int IntKind.i64 v_box0, Own.none), (Dat.int IntKind.i64 v_box1, Own.none), (Dat.int IntKind.i64 v_box2, Own.none), (Dat.int IntKind.i64 v_box3, Own.none), (Dat.str v_box4, Own.none), (Dat.str v_box5, Own.none), (Dat.str v_box6, Own.none), (Dat.sl v_box7, Own.none)]], []) => X v_kind v_out v_i v_box0 v_box1 v_box2 v_box3 v_box4 v_box5 v_box6 v_box7 γ (fun e x0 x1 x2 x3 x4 x5 x6 x7 x8 x9 => K (e, ([AVal.dat (Dat.sl x0), AVal.dat (Dat.int IntKind.i64 x1), AVal.agg [(Dat.int IntKind.i64 x2, Own.none), (Dat.int IntKind.i64 x3, Own.none), (Dat.int IntKind.i64 x4, Own.none), (Dat.int IntKind.i64 x5, Own.none), (Dat.str x6, Own.none), (Dat.str x7, Own.none), (Dat.str x8, Own.none), (Dat.sl x9, Own.none)]], [])))
  | a, s => F a s γ K
def T_ref10_Kinds_L0 (x_ref10_Kinds : Ty_ref10_Kinds) : CallK := (addK noneK 27 (P_ref10_Kinds x_ref10_Kinds none3))
def L_ref10_Kinds_L0 (x_ref10_Kinds : Ty_ref10_Kinds) : LoopK := noneL
def Sp.B_ref10_Kinds_L0 (x_ref10_Kinds_L0 : Ty_ref10_Kinds_L0) (x_ref10_Kinds : Ty_ref10_Kinds) (v_kind : Int) (v_out : List (List Dat)) (v_i : Int) (v_box0 : Int) (v_box1 : Int) (v_box2 : Int) (v_box3 : Int) (v_box4 : ByteArray) (v_box5 : ByteArray) (v_box6 : ByteArray) (v_box7 : List (List Dat)) (γ : Type) (K : Ex → List (List Dat) → Int → Int → Int → Int → Int → ByteArray → ByteArray → ByteArray → List (List Dat) → Option γ) : Option γ := bif sized v_out 8 then bif decide (v_i < Int.ofNat (List.length v_box7)) then elemAt v_box7 v_i fun (z13 : List Dat) => bif List.length z13 == 8 then cellAt z13 0 fun (z14 : Dat) => Aev.asInt IntKind.i64 z14 fun (z15 : Int) => cellAt z13 1 fun (z16 : Dat) => Aev.asInt IntKind.i64 z16 fun (z17 : Int) => cellAt z13 2 fun (z18 : Dat) => Aev.asInt IntKind.i64 z18 fun (z19 : Int) => cellAt z13 3 fun (z20 : Dat) => Aev.asInt IntKind.i64 z20 fun (z21 : Int) => cellAt z13 4 fun (z22 : Dat) => asStr z22 fun (z23 : ByteArray) => cellAt z13 5 fun (z24 : Dat) => asStr z24 fun (z25 : ByteArray) => cellAt z13 6 fun (z26 : Dat) => asStr z26 fun (z27 : ByteArray) => cellAt z13 7 fun (z28 : Dat) => asSl z28 fun (z29 : List (List Dat)) => x_ref10_Kinds z15 z17 z19 z21 z23 z25 z27 z29 v_kind γ fun (z30 : List (List Dat)) => bif sized v_out 8 && sized z30 8 && true && decide ((List.length v_out + List.length z30) * 105 ≤ 70368744177664) && true then x_ref10_Kinds_L0 v_kind (v_out ++ z30) (IntKind.wrap IntKind.i64 (v_i + 1)) v_box0 v_box1 v_box2 v_box3 v_box4 v_box5 v_box6 v_box7 γ K else none else none else K (Ex.exit 0) v_out v_i v_box0 v_box1 v_box2 v_box3 v_box4 v_box5 v_box6 v_box7 else none
theorem e_ref10_Kinds_L0 (p : Par) (x_ref10_Kinds_L0 : Ty_ref10_Kinds_L0) (x_ref10_Kinds : Ty_ref10_Kinds) (v_kind : Int) (v_out : List (List Dat)) (v_i : Int) (v_box0 : Int) (v_box1 : Int) (v_box2 : Int) (v_box3 : Int) (v_box4 : ByteArray) (v_box5 : ByteArray) (v_box6 : ByteArray) (v_box7 : List (List Dat)) (γ : Type) (K : Ex × Vars → Option γ) : roundK (cfg p) (T_ref10_Kinds_L0 x_ref10_Kinds) (L_ref10_Kinds_L0 x_ref10_Kinds) 27 0 [AVal.dat (Dat.int IntKind.i64 v_kind), AVal.loc 2 0] ([AVal.dat (Dat.sl v_out), AVal.dat (Dat.int IntKind.i64 v_i), AVal.agg [(Dat.int IntKind.i64 v_box0, Own.none), (Dat.int IntKind.i64 v_box1, Own.none), (Dat.int IntKind.i64 v_box2, Own.none), (Dat.int IntKind.i64 v_box3, Own.none), (Dat.str v_box4, Own.none), (Dat.str v_box5, Own.none), (Dat.str v_box6, Own.none), (Dat.sl v_box7, Own.none)]], []) γ (contL (fun v => P_ref10_Kinds_L0 x_ref10_Kinds_L0 noneL3 [AVal.dat (Dat.int IntKind.i64 v_kind), AVal.loc 2 0] v γ K) K) = Sp.B_ref10_Kinds_L0 x_ref10_Kinds_L0 x_ref10_Kinds v_kind v_out v_i v_box0 v_box1 v_box2 v_box3 v_box4 v_box5 v_box6 v_box7 γ (fun e x0 x1 x2 x3 x4 x5 x6 x7 x8 x9 => K (e, ([AVal.dat (Dat.sl x0), AVal.dat (Dat.int IntKind.i64 x1), AVal.agg [(Dat.int IntKind.i64 x2, Own.none), (Dat.int IntKind.i64 x3, Own.none), (Dat.int IntKind.i64 x4, Own.none), (Dat.int IntKind.i64 x5, Own.none), (Dat.str x6, Own.none), (Dat.str x7, Own.none), (Dat.str x8, Own.none), (Dat.sl x9, Own.none)]], []))) := by kernel_rfl
def T_ref10_Kinds (x_ref10_Kinds_L0 : Ty_ref10_Kinds_L0) : CallK := noneK
def L_ref10_Kinds (x_ref10_Kinds_L0 : Ty_ref10_Kinds_L0) : LoopK := (addL noneL 27 0 (P_ref10_Kinds_L0 x_ref10_Kinds_L0 noneL3))
def Sp.B_ref10_Kinds (x_ref10_Kinds_L0 : Ty_ref10_Kinds_L0) (v_e0 : Int) (v_e1 : Int) (v_e2 : Int) (v_e3 : Int) (v_e4 : ByteArray) (v_e5 : ByteArray) (v_e6 : ByteArray) (v_e7 : List (List Dat)) (v_kind : Int) (γ : Type) (K : List (List Dat) → Option γ) : Option γ := bif decide (v_e0 = v_kind) then x_ref10_Kinds_L0 v_kind [[Dat.int IntKind.i64 v_e0, Dat.int IntKind.i64 v_e1, Dat.int IntKind.i64 v_e2, Dat.int IntKind.i64 v_e3, Dat.str v_e4, Dat.str v_e5, Dat.str v_e6, Dat.sl v_e7]] 0 v_e0 v_e1 v_e2 v_e3 v_e4 v_e5 v_e6 v_e7 γ fun (z11 : Ex) (z12 : List (List Dat)) (z13 z14 z15 z16 z17 : Int) (z18 z19 z20 : ByteArray) (z21 : List (List Dat)) => bif sized z12 8 then bif Ex.isExit z11 0 then K z12 else bif Ex.isRet z11 then none else none else none else x_ref10_Kinds_L0 v_kind [] 0 v_e0 v_e1 v_e2 v_e3 v_e4 v_e5 v_e6 v_e7 γ fun (z22 : Ex) (z23 : List (List Dat)) (z24 z25 z26 z27 z28 : Int) (z29 z30 z31 : ByteArray) (z32 : List (List Dat)) => bif sized z23 8 then bif Ex.isExit z22 0 then K z23 else bif Ex.isRet z22 then none else none else none
theorem e_ref10_Kinds (p : Par) (x_ref10_Kinds_L0 : Ty_ref10_Kinds_L0) (v_e0 : Int) (v_e1 : Int) (v_e2 : Int) (v_e3 : Int) (v_e4 : ByteArray) (v_e5 : ByteArray) (v_e6 : ByteArray) (v_e7 : List (List Dat)) (v_kind : Int) (γ : Type) (K : List Ent × Sig → Option γ) : evFK (cfg p) (T_ref10_Kinds x_ref10_Kinds_L0) (L_ref10_Kinds x_ref10_Kinds_L0) 27 [AVal.agg [(Dat.int IntKind.i64 v_e0, Own.none), (Dat.int IntKind.i64 v_e1, Own.none), (Dat.int IntKind.i64 v_e2, Own.none), (Dat.int IntKind.i64 v_e3, Own.none), (Dat.str v_e4, Own.none), (Dat.str v_e5, Own.none), (Dat.str v_e6, Own.none), (Dat.sl v_e7, Own.none)], AVal.dat (Dat.int IntKind.i64 v_kind)] [] γ K = Sp.B_ref10_Kinds x_ref10_Kinds_L0 v_e0 v_e1 v_e2 v_e3 v_e4 v_e5 v_e6 v_e7 v_kind γ (fun r0 => K ([(AVal.dat (Dat.sl r0), Own.id 0 8)], [])) := by kernel_rfl
def Sp.ref10_Kinds_L0 (R_ref10_Kinds : Ty_ref10_Kinds) : Nat → Ty_ref10_Kinds_L0
  | 0 => fun _ _ _ _ _ _ _ _ _ _ _ _ _ => none
  | n + 1 => Sp.B_ref10_Kinds_L0 (Sp.ref10_Kinds_L0 R_ref10_Kinds n) R_ref10_Kinds
theorem E0_ref10_Kinds_L0 (p : Par) (R_ref10_Kinds : Ty_ref10_Kinds) (h_ref10_Kinds : ∀ {F : Ent3}, EntOk (cfg p) 27 F → EntOk (cfg p) 27 (P_ref10_Kinds R_ref10_Kinds F)) : ∀ n, EntOkL (cfg p) 27 0 (P_ref10_Kinds_L0 (Sp.ref10_Kinds_L0 R_ref10_Kinds n) noneL3) := entL_rounds (tab_call (tab_nil _) (h_ref10_Kinds (ent_none _ _))) (by kernel_rfl) (fun c v γ K => by unfold P_ref10_Kinds_L0; split <;> rfl) fun n c v γ K q h => by
  unfold P_ref10_Kinds_L0 at h
  split at h
  · exact (e_ref10_Kinds_L0 p _ _ _ _ _ _ _ _ _ _ _ _ _ _ _).trans h
  · cases h
theorem E_ref10_Kinds_L0 (p : Par) (R_ref10_Kinds : Ty_ref10_Kinds) (h_ref10_Kinds : ∀ {F : Ent3}, EntOk (cfg p) 27 F → EntOk (cfg p) 27 (P_ref10_Kinds R_ref10_Kinds F)) (n : Nat) {F : Loop3} (hF : EntOkL (cfg p) 27 0 F) : EntOkL (cfg p) 27 0 (P_ref10_Kinds_L0 (Sp.ref10_Kinds_L0 R_ref10_Kinds n) F) := by
  intro c v γ K q h
  unfold P_ref10_Kinds_L0 at h
  split at h
  · exact E0_ref10_Kinds_L0 p R_ref10_Kinds h_ref10_Kinds n _ _ _ _ _ h
  · exact hF _ _ _ _ _ h
def Sp.ref10_Kinds : Nat → Ty_ref10_Kinds
  | 0 => fun _ _ _ _ _ _ _ _ _ _ _ => none
  | n + 1 => Sp.B_ref10_Kinds (Sp.ref10_Kinds_L0 (Sp.ref10_Kinds n) fuel)
theorem G109_ok (p : Par) (n : Nat) : (∀ {F : Ent3}, EntOk (cfg p) 27 F → EntOk (cfg p) 27 (P_ref10_Kinds (Sp.ref10_Kinds n) F)) := by
  induction n with
  | zero =>
    refine ?_
    · intro F hF a s γ K q h
      unfold P_ref10_Kinds at h
      split at h
      · cases h
      · exact hF _ _ _ _ _ h
  | succ n ih =>
    refine ?_
    · intro F hF a s γ K q h
      unfold P_ref10_Kinds at h
      split at h
      · exact body_ok (tab_loop (tab_nil _) (E_ref10_Kinds_L0 p (Sp.ref10_Kinds n) ih fuel (entL_none _ _ _))) rfl ((e_ref10_Kinds p _ _ _ _ _ _ _ _ _ _ _ _).trans h)
      · exact hF _ _ _ _ _ h
theorem E_ref10_Kinds (p : Par) (n : Nat) {F : Ent3} (hF : EntOk (cfg p) 27 F) : EntOk (cfg p) 27 (P_ref10_Kinds (Sp.ref10_Kinds n) F) := (G109_ok p n) hF
abbrev Ty_ref16_May : Type 1 := Int → Int → Int → Int → ByteArray → ByteArray → ByteArray → List (List Dat) → (γ : Type) → (Int → Option γ) → Option γ
def P_ref16_May (X : Ty_ref16_May) (F : Ent3) : Ent3 := fun a s γ K => match a, s with
  | [AVal.agg [(Dat.int IntKind.i64 v_e0, Own.none), (Dat.int IntKind.i64 v_e1, Own.none), (Dat.int IntKind.i64 v_e2, Own.none), (Dat.int IntKind.i64 v_e3, Own.none), (Dat.str v_e4, Own.none), (Dat.str v_e5, Own.none), (Dat.str v_e6, Own.none), (Dat.sl v_e7, Own.none)]], [] => X v_e0 v_e1 v_e2 v_e3 v_e4 v_e5 v_e6 v_e7 γ (fun r0 => K ([(AVal.dat (Dat.int IntKind.i64 r0), Own.none)], []))
  | a, s => F a s γ K
def T_ref16_May (x_ref10_Check : Ty_ref10_Check) (x_ref10_Kinds : Ty_ref10_Kinds) : CallK := (addK (addK noneK 26 (P_ref10_Check x_ref10_Check none3)) 27 (P_ref10_Kinds x_ref10_Kinds none3))
def L_ref16_May (x_ref10_Check : Ty_ref10_Check) (x_ref10_Kinds : Ty_ref10_Kinds) : LoopK := noneL
def Sp.B_ref16_May (x_ref10_Check : Ty_ref10_Check) (x_ref10_Kinds : Ty_ref10_Kinds) (v_e0 : Int) (v_e1 : Int) (v_e2 : Int) (v_e3 : Int) (v_e4 : ByteArray) (v_e5 : ByteArray) (v_e6 : ByteArray) (v_e7 : List (List Dat)) (γ : Type) (K : Int → Option γ) : Option γ := x_ref10_Check v_e0 v_e1 v_e2 v_e3 v_e4 v_e5 v_e6 v_e7 γ fun (z10 : Bool) => bif !z10 then K 100 else x_ref10_Kinds v_e0 v_e1 v_e2 v_e3 v_e4 v_e5 v_e6 v_e7 4 γ fun (z11 : List (List Dat)) => bif decide (0 < Int.ofNat (List.length z11)) then K 1 else K 0
theorem e_ref16_May (p : Par) (x_ref10_Check : Ty_ref10_Check) (x_ref10_Kinds : Ty_ref10_Kinds) (v_e0 : Int) (v_e1 : Int) (v_e2 : Int) (v_e3 : Int) (v_e4 : ByteArray) (v_e5 : ByteArray) (v_e6 : ByteArray) (v_e7 : List (List Dat)) (γ : Type) (K : List Ent × Sig → Option γ) : evFK (cfg p) (T_ref16_May x_ref10_Check x_ref10_Kinds) (L_ref16_May x_ref10_Check x_ref10_Kinds) 10 [AVal.agg [(Dat.int IntKind.i64 v_e0, Own.none), (Dat.int IntKind.i64 v_e1, Own.none), (Dat.int IntKind.i64 v_e2, Own.none), (Dat.int IntKind.i64 v_e3, Own.none), (Dat.str v_e4, Own.none), (Dat.str v_e5, Own.none), (Dat.str v_e6, Own.none), (Dat.sl v_e7, Own.none)]] [] γ K = Sp.B_ref16_May x_ref10_Check x_ref10_Kinds v_e0 v_e1 v_e2 v_e3 v_e4 v_e5 v_e6 v_e7 γ (fun r0 => K ([(AVal.dat (Dat.int IntKind.i64 r0), Own.none)], [])) := by kernel_rfl
def Sp.ref16_May : Ty_ref16_May := Sp.B_ref16_May Sp.ref10_Check (Sp.ref10_Kinds fuel)
theorem E_ref16_May (p : Par) {F : Ent3} (hF : EntOk (cfg p) 10 F) : EntOk (cfg p) 10 (P_ref16_May Sp.ref16_May F) := by
  intro a s γ K q h
  unfold P_ref16_May at h
  split at h
  · exact body_ok (tab_call (tab_call (tab_nil _) (E_ref10_Check p (ent_none _ _))) (E_ref10_Kinds p fuel (ent_none _ _))) rfl ((e_ref16_May p _ _ _ _ _ _ _ _ _ _ _ _).trans h)
  · exact hF _ _ _ _ _ h
abbrev Ty_law16_CalcAnds : Type 1 := List (List Dat) → List (List Dat) → (γ : Type) → (Bool → Option γ) → Option γ
def P_law16_CalcAnds (X : Ty_law16_CalcAnds) (F : Ent3) : Ent3 := fun a s γ K => match a, s with
  | [AVal.dat (Dat.sl v_l), AVal.dat (Dat.sl v_r)], [] => X v_l v_r γ (fun r0 => K ([(AVal.dat (Dat.bool r0), Own.none)], []))
  | a, s => F a s γ K
def T_law16_CalcAnds (x_law16_large : Ty_law16_large) (x_law16_lives : Ty_law16_lives) (x_law16_CalcAnds_L0 : Ty_law16_CalcAnds_L0) (x_ref10_All : Ty_ref10_All) (x_ref10_Large : Ty_ref10_Large) (x_ref16_May : Ty_ref16_May) (x_calc_Holds : Ty_calc_Holds) : CallK := (addK (addK (addK (addK (addK (addK noneK 4 (P_law16_large x_law16_large none3)) 5 (P_law16_lives x_law16_lives none3)) 9 (P_ref10_All x_ref10_All none3)) 6 (P_ref10_Large x_ref10_Large none3)) 10 (P_ref16_May x_ref16_May none3)) 7 (P_calc_Holds x_calc_Holds none3))
def L_law16_CalcAnds (x_law16_large : Ty_law16_large) (x_law16_lives : Ty_law16_lives) (x_law16_CalcAnds_L0 : Ty_law16_CalcAnds_L0) (x_ref10_All : Ty_ref10_All) (x_ref10_Large : Ty_ref10_Large) (x_ref16_May : Ty_ref16_May) (x_calc_Holds : Ty_calc_Holds) : LoopK := (addL noneL 3 0 (P_law16_CalcAnds_L0 x_law16_CalcAnds_L0 noneL3))
def Sp.B_law16_CalcAnds (x_law16_large : Ty_law16_large) (x_law16_lives : Ty_law16_lives) (x_law16_CalcAnds_L0 : Ty_law16_CalcAnds_L0) (x_ref10_All : Ty_ref10_All) (x_ref10_Large : Ty_ref10_Large) (x_ref16_May : Ty_ref16_May) (x_calc_Holds : Ty_calc_Holds) (v_l : List (List Dat)) (v_r : List (List Dat)) (γ : Type) (K : Bool → Option γ) : Option γ := x_law16_large v_r γ fun (z4 : Bool) => bif z4 then x_law16_lives γ fun (z5 : Bool) => K z5 else bif decide (10 < Int.ofNat (List.length v_l)) then x_law16_lives γ fun (z6 : Bool) => K z6 else x_law16_CalcAnds_L0 v_l v_r false true false 0 γ fun (z7 : Ex) (z8 z9 z10 : Bool) (z11 : Int) => bif Ex.isExit z7 0 then x_ref10_All v_l γ fun (z12 z13 z14 z15 : Int) (z16 z17 z18 : ByteArray) (z19 : List (List Dat)) => x_law16_lives γ fun (z20 : Bool) => bif !z20 then x_law16_lives γ fun (z21 : Bool) => K z21 else x_ref10_Large z12 z13 z14 z15 z16 z17 z18 z19 γ fun (z22 : Bool) => bif z22 then x_law16_lives γ fun (z23 : Bool) => K z23 else x_ref16_May z12 z13 z14 z15 z16 z17 z18 z19 γ fun (z24 : Int) => bif !decide (z24 = 0) then x_law16_lives γ fun (z25 : Bool) => K z25 else x_calc_Holds z12 z13 z14 z15 z16 z17 z18 z19 v_r γ fun (z26 : Bool) (z27 : Int) => bif !z9 then bif !z10 then K true else bif !z26 then K (decide (z27 = 0)) else K false else bif z26 then bif decide (z27 = 0) then bif !z10 then K true else bif !z26 then K (decide (z27 = 0)) else K false else K false else K false else bif Ex.isRet z7 then K z8 else none
theorem e_law16_CalcAnds (p : Par) (x_law16_large : Ty_law16_large) (x_law16_lives : Ty_law16_lives) (x_law16_CalcAnds_L0 : Ty_law16_CalcAnds_L0) (x_ref10_All : Ty_ref10_All) (x_ref10_Large : Ty_ref10_Large) (x_ref16_May : Ty_ref16_May) (x_calc_Holds : Ty_calc_Holds) (v_l : List (List Dat)) (v_r : List (List Dat)) (γ : Type) (K : List Ent × Sig → Option γ) : evFK (cfg p) (T_law16_CalcAnds x_law16_large x_law16_lives x_law16_CalcAnds_L0 x_ref10_All x_ref10_Large x_ref16_May x_calc_Holds) (L_law16_CalcAnds x_law16_large x_law16_lives x_law16_CalcAnds_L0 x_ref10_All x_ref10_Large x_ref16_May x_calc_Holds) 3 [AVal.dat (Dat.sl v_l), AVal.dat (Dat.sl v_r)] [] γ K = Sp.B_law16_CalcAnds x_law16_large x_law16_lives x_law16_CalcAnds_L0 x_ref10_All x_ref10_Large x_ref16_May x_calc_Holds v_l v_r γ (fun r0 => K ([(AVal.dat (Dat.bool r0), Own.none)], [])) := by kernel_rfl
def Sp.law16_CalcAnds : Ty_law16_CalcAnds := Sp.B_law16_CalcAnds Sp.law16_large Sp.law16_lives (Sp.law16_CalcAnds_L0 fuel) Sp.ref10_All Sp.ref10_Large Sp.ref16_May Sp.calc_Holds
theorem E_law16_CalcAnds (p : Par) {F : Ent3} (hF : EntOk (cfg p) 3 F) : EntOk (cfg p) 3 (P_law16_CalcAnds Sp.law16_CalcAnds F) := by
  intro a s γ K q h
  unfold P_law16_CalcAnds at h
  split at h
  · exact body_ok (tab_loop (tab_call (tab_call (tab_call (tab_call (tab_call (tab_call (tab_nil _) (E_law16_large p (ent_none _ _))) (E_law16_lives p (ent_none _ _))) (E_ref10_All p (ent_none _ _))) (E_ref10_Large p (ent_none _ _))) (E_ref16_May p (ent_none _ _))) (E_calc_Holds p (ent_none _ _))) (E_law16_CalcAnds_L0 p fuel (entL_none _ _ _))) rfl ((e_law16_CalcAnds p _ _ _ _ _ _ _ _ _ _ _).trans h)
  · exact hF _ _ _ _ _ h
end
end Go.Proofs.YtebfhpjnbmdcoaaGreatDoor

/- What the functions of this program compute, printed by a program. -/
import Derived.Test.YthbieolladlihaaDoorKQ
import Derived.KernelRfl
set_option linter.unusedVariables false
namespace Go.Proofs.YthbieolladlihaaDoor
open Go Go.Aev Go.RowKit
noncomputable section
abbrev Ty_ref10_large : Type 1 := Int → Int → Int → Int → ByteArray → ByteArray → ByteArray → List (List Dat) → Int → Int → (γ : Type) → (Bool → Int → Option γ) → Option γ
def P_ref10_large (X : Ty_ref10_large) (F : Ent3) : Ent3 := fun a s γ K => match a, s with
  | [AVal.agg [(Dat.int IntKind.i64 v_e0, Own.none), (Dat.int IntKind.i64 v_e1, Own.none), (Dat.int IntKind.i64 v_e2, Own.none), (Dat.int IntKind.i64 v_e3, Own.none), (Dat.str v_e4, Own.none), (Dat.str v_e5, Own.none), (Dat.str v_e6, Own.none), (Dat.sl v_e7, Own.none)], AVal.dat (Dat.int IntKind.i64 v_deep), AVal.ref 0 0], [Box.cells [AVal.dat (Dat.int IntKind.i64 b)]] => X v_e0 v_e1 v_e2 v_e3 v_e4 v_e5 v_e6 v_e7 v_deep b γ (fun r0 r1 => K ([(AVal.dat (Dat.bool r0), Own.none)], [Box.cells [AVal.dat (Dat.int IntKind.i64 r1)]]))
  | a, s => F a s γ K
abbrev Ty_ref10_large_L0 : Type 1 := Int → Bool → Int → Int → Int → Int → Int → ByteArray → ByteArray → ByteArray → List (List Dat) → Int → (γ : Type) → (Ex → Bool → Int → Int → Int → Int → Int → ByteArray → ByteArray → ByteArray → List (List Dat) → Int → Option γ) → Option γ
def P_ref10_large_L0 (X : Ty_ref10_large_L0) (F : Loop3) : Loop3 := fun a s γ K => match a, s with
  | [AVal.dat (Dat.int IntKind.i64 v_deep), AVal.ref 0 0, AVal.loc 3 0], ([AVal.dat (Dat.bool v_), AVal.dat (Dat.int IntKind.i64 v_i), AVal.agg [(Dat.int IntKind.i64 v_box0, Own.none), (Dat.int IntKind.i64 v_box1, Own.none), (Dat.int IntKind.i64 v_box2, Own.none), (Dat.int IntKind.i64 v_box3, Own.none), (Dat.str v_box4, Own.none), (Dat.str v_box5, Own.none), (Dat.str v_box6, Own.none), (Dat.sl v_box7, Own.none)]], [Box.cells [AVal.dat (Dat.int IntKind.i64 b)]]) => X v_deep v_ v_i v_box0 v_box1 v_box2 v_box3 v_box4 v_box5 v_box6 v_box7 b γ (fun e x0 x1 x2 x3 x4 x5 x6 x7 x8 x9 x10 => K (e, ([AVal.dat (Dat.bool x0), AVal.dat (Dat.int IntKind.i64 x1), AVal.agg [(Dat.int IntKind.i64 x2, Own.none), (Dat.int IntKind.i64 x3, Own.none), (Dat.int IntKind.i64 x4, Own.none), (Dat.int IntKind.i64 x5, Own.none), (Dat.str x6, Own.none), (Dat.str x7, Own.none), (Dat.str x8, Own.none), (Dat.sl x9, Own.none)]], [Box.cells [AVal.dat (Dat.int IntKind.i64 x10)]])))
  | a, s => F a s γ K
def T_ref10_large_L0 (x_ref10_large : Ty_ref10_large) : CallK := (addK noneK 17 (P_ref10_large x_ref10_large none3))
def L_ref10_large_L0 (x_ref10_large : Ty_ref10_large) : LoopK := noneL
def Sp.B_ref10_large_L0 (x_ref10_large_L0 : Ty_ref10_large_L0) (x_ref10_large : Ty_ref10_large) (v_deep : Int) (v_ : Bool) (v_i : Int) (v_box0 : Int) (v_box1 : Int) (v_box2 : Int) (v_box3 : Int) (v_box4 : ByteArray) (v_box5 : ByteArray) (v_box6 : ByteArray) (v_box7 : List (List Dat)) (b : Int) (γ : Type) (K : Ex → Bool → Int → Int → Int → Int → Int → ByteArray → ByteArray → ByteArray → List (List Dat) → Int → Option γ) : Option γ := bif decide (v_i < Int.ofNat (List.length v_box7)) then elemAt v_box7 v_i fun (z14 : List Dat) => bif List.length z14 == 8 then cellAt z14 0 fun (z15 : Dat) => Aev.asInt IntKind.i64 z15 fun (z16 : Int) => cellAt z14 1 fun (z17 : Dat) => Aev.asInt IntKind.i64 z17 fun (z18 : Int) => cellAt z14 2 fun (z19 : Dat) => Aev.asInt IntKind.i64 z19 fun (z20 : Int) => cellAt z14 3 fun (z21 : Dat) => Aev.asInt IntKind.i64 z21 fun (z22 : Int) => cellAt z14 4 fun (z23 : Dat) => asStr z23 fun (z24 : ByteArray) => cellAt z14 5 fun (z25 : Dat) => asStr z25 fun (z26 : ByteArray) => cellAt z14 6 fun (z27 : Dat) => asStr z27 fun (z28 : ByteArray) => cellAt z14 7 fun (z29 : Dat) => asSl z29 fun (z30 : List (List Dat)) => x_ref10_large z16 z18 z20 z22 z24 z26 z28 z30 (IntKind.wrap IntKind.i64 (v_deep + 1)) b γ fun (z31 : Bool) (z32 : Int) => bif z31 then K Ex.ret true v_i v_box0 v_box1 v_box2 v_box3 v_box4 v_box5 v_box6 v_box7 z32 else x_ref10_large_L0 v_deep v_ (IntKind.wrap IntKind.i64 (v_i + 1)) v_box0 v_box1 v_box2 v_box3 v_box4 v_box5 v_box6 v_box7 z32 γ K else none else K (Ex.exit 0) v_ v_i v_box0 v_box1 v_box2 v_box3 v_box4 v_box5 v_box6 v_box7 b
theorem e_ref10_large_L0 (p : Par) (x_ref10_large_L0 : Ty_ref10_large_L0) (x_ref10_large : Ty_ref10_large) (v_deep : Int) (v_ : Bool) (v_i : Int) (v_box0 : Int) (v_box1 : Int) (v_box2 : Int) (v_box3 : Int) (v_box4 : ByteArray) (v_box5 : ByteArray) (v_box6 : ByteArray) (v_box7 : List (List Dat)) (b : Int) (γ : Type) (K : Ex × Vars → Option γ) : roundK (cfg p) (T_ref10_large_L0 x_ref10_large) (L_ref10_large_L0 x_ref10_large) 17 0 [AVal.dat (Dat.int IntKind.i64 v_deep), AVal.ref 0 0, AVal.loc 3 0] ([AVal.dat (Dat.bool v_), AVal.dat (Dat.int IntKind.i64 v_i), AVal.agg [(Dat.int IntKind.i64 v_box0, Own.none), (Dat.int IntKind.i64 v_box1, Own.none), (Dat.int IntKind.i64 v_box2, Own.none), (Dat.int IntKind.i64 v_box3, Own.none), (Dat.str v_box4, Own.none), (Dat.str v_box5, Own.none), (Dat.str v_box6, Own.none), (Dat.sl v_box7, Own.none)]], [Box.cells [AVal.dat (Dat.int IntKind.i64 b)]]) γ (contL (fun v => P_ref10_large_L0 x_ref10_large_L0 noneL3 [AVal.dat (Dat.int IntKind.i64 v_deep), AVal.ref 0 0, AVal.loc 3 0] v γ K) K) = Sp.B_ref10_large_L0 x_ref10_large_L0 x_ref10_large v_deep v_ v_i v_box0 v_box1 v_box2 v_box3 v_box4 v_box5 v_box6 v_box7 b γ (fun e x0 x1 x2 x3 x4 x5 x6 x7 x8 x9 x10 => K (e, ([AVal.dat (Dat.bool x0), AVal.dat (Dat.int IntKind.i64 x1), AVal.agg [(Dat.int IntKind.i64 x2, Own.none), (Dat.int IntKind.i64 x3, Own.none), (Dat.int IntKind.i64 x4, Own.none), (Dat.int IntKind.i64 x5, Own.none), (Dat.str x6, Own.none), (Dat.str x7, Own.none), (Dat.str x8, Own.none), (Dat.sl x9, Own.none)]], [Box.cells [AVal.dat (Dat.int IntKind.i64 x10)]]))) := by kernel_rfl
def T_ref10_large (x_ref10_large_L0 : Ty_ref10_large_L0) : CallK := noneK
def L_ref10_large (x_ref10_large_L0 : Ty_ref10_large_L0) : LoopK := (addL noneL 17 0 (P_ref10_large_L0 x_ref10_large_L0 noneL3))
def Sp.B_ref10_large (x_ref10_large_L0 : Ty_ref10_large_L0) (v_e0 : Int) (v_e1 : Int) (v_e2 : Int) (v_e3 : Int) (v_e4 : ByteArray) (v_e5 : ByteArray) (v_e6 : ByteArray) (v_e7 : List (List Dat)) (v_deep : Int) (b : Int) (γ : Type) (K : Bool → Int → Option γ) : Option γ := bif decide (60 < v_deep) then K true (IntKind.wrap IntKind.i64 (b + 1)) else bif decide (1000 < IntKind.wrap IntKind.i64 (b + 1)) then K true (IntKind.wrap IntKind.i64 (b + 1)) else bif decide (200 < Int.ofNat (ByteArray.size v_e5)) then K true (IntKind.wrap IntKind.i64 (b + 1)) else bif decide (200 < Int.ofNat (ByteArray.size v_e6)) then K true (IntKind.wrap IntKind.i64 (b + 1)) else bif decide (500 < Int.ofNat (ByteArray.size v_e4)) then K true (IntKind.wrap IntKind.i64 (b + 1)) else x_ref10_large_L0 v_deep false 0 v_e0 v_e1 v_e2 v_e3 v_e4 v_e5 v_e6 v_e7 (IntKind.wrap IntKind.i64 (b + 1)) γ fun (z12 : Ex) (z13 : Bool) (z14 z15 z16 z17 z18 : Int) (z19 z20 z21 : ByteArray) (z22 : List (List Dat)) (z23 : Int) => bif Ex.isExit z12 0 then K false z23 else bif Ex.isRet z12 then K z13 z23 else none
theorem e_ref10_large (p : Par) (x_ref10_large_L0 : Ty_ref10_large_L0) (v_e0 : Int) (v_e1 : Int) (v_e2 : Int) (v_e3 : Int) (v_e4 : ByteArray) (v_e5 : ByteArray) (v_e6 : ByteArray) (v_e7 : List (List Dat)) (v_deep : Int) (b : Int) (γ : Type) (K : List Ent × Sig → Option γ) : evFK (cfg p) (T_ref10_large x_ref10_large_L0) (L_ref10_large x_ref10_large_L0) 17 [AVal.agg [(Dat.int IntKind.i64 v_e0, Own.none), (Dat.int IntKind.i64 v_e1, Own.none), (Dat.int IntKind.i64 v_e2, Own.none), (Dat.int IntKind.i64 v_e3, Own.none), (Dat.str v_e4, Own.none), (Dat.str v_e5, Own.none), (Dat.str v_e6, Own.none), (Dat.sl v_e7, Own.none)], AVal.dat (Dat.int IntKind.i64 v_deep), AVal.ref 0 0] [Box.cells [AVal.dat (Dat.int IntKind.i64 b)]] γ K = Sp.B_ref10_large x_ref10_large_L0 v_e0 v_e1 v_e2 v_e3 v_e4 v_e5 v_e6 v_e7 v_deep b γ (fun r0 r1 => K ([(AVal.dat (Dat.bool r0), Own.none)], [Box.cells [AVal.dat (Dat.int IntKind.i64 r1)]])) := by kernel_rfl
def Sp.ref10_large_L0 (R_ref10_large : Ty_ref10_large) : Nat → Ty_ref10_large_L0
  | 0 => fun _ _ _ _ _ _ _ _ _ _ _ _ _ _ => none
  | n + 1 => Sp.B_ref10_large_L0 (Sp.ref10_large_L0 R_ref10_large n) R_ref10_large
theorem E0_ref10_large_L0 (p : Par) (R_ref10_large : Ty_ref10_large) (h_ref10_large : ∀ {F : Ent3}, EntOk (cfg p) 17 F → EntOk (cfg p) 17 (P_ref10_large R_ref10_large F)) : ∀ n, EntOkL (cfg p) 17 0 (P_ref10_large_L0 (Sp.ref10_large_L0 R_ref10_large n) noneL3) := entL_rounds (tab_call (tab_nil _) (h_ref10_large (ent_none _ _))) (by kernel_rfl) (fun c v γ K => by unfold P_ref10_large_L0; split <;> rfl) fun n c v γ K q h => by
  unfold P_ref10_large_L0 at h
  split at h
  · exact (e_ref10_large_L0 p _ _ _ _ _ _ _ _ _ _ _ _ _ _ _ _).trans h
  · cases h
theorem E_ref10_large_L0 (p : Par) (R_ref10_large : Ty_ref10_large) (h_ref10_large : ∀ {F : Ent3}, EntOk (cfg p) 17 F → EntOk (cfg p) 17 (P_ref10_large R_ref10_large F)) (n : Nat) {F : Loop3} (hF : EntOkL (cfg p) 17 0 F) : EntOkL (cfg p) 17 0 (P_ref10_large_L0 (Sp.ref10_large_L0 R_ref10_large n) F) := by
  intro c v γ K q h
  unfold P_ref10_large_L0 at h
  split at h
  · exact E0_ref10_large_L0 p R_ref10_large h_ref10_large n _ _ _ _ _ h
  · exact hF _ _ _ _ _ h
def Sp.ref10_large : Nat → Ty_ref10_large
  | 0 => fun _ _ _ _ _ _ _ _ _ _ _ _ => none
  | n + 1 => Sp.B_ref10_large (Sp.ref10_large_L0 (Sp.ref10_large n) fuel)
theorem G3_ok (p : Par) (n : Nat) : (∀ {F : Ent3}, EntOk (cfg p) 17 F → EntOk (cfg p) 17 (P_ref10_large (Sp.ref10_large n) F)) := by
  induction n with
  | zero =>
    refine ?_
    · intro F hF a s γ K q h
      unfold P_ref10_large at h
      split at h
      · cases h
      · exact hF _ _ _ _ _ h
  | succ n ih =>
    refine ?_
    · intro F hF a s γ K q h
      unfold P_ref10_large at h
      split at h
      · exact body_ok (tab_loop (tab_nil _) (E_ref10_large_L0 p (Sp.ref10_large n) ih fuel (entL_none _ _ _))) rfl ((e_ref10_large p _ _ _ _ _ _ _ _ _ _ _ _ _).trans h)
      · exact hF _ _ _ _ _ h
theorem E_ref10_large (p : Par) (n : Nat) {F : Ent3} (hF : EntOk (cfg p) 17 F) : EntOk (cfg p) 17 (P_ref10_large (Sp.ref10_large n) F) := (G3_ok p n) hF
abbrev Ty_ref10_Large : Type 1 := Int → Int → Int → Int → ByteArray → ByteArray → ByteArray → List (List Dat) → (γ : Type) → (Bool → Option γ) → Option γ
def P_ref10_Large (X : Ty_ref10_Large) (F : Ent3) : Ent3 := fun a s γ K => match a, s with
  | [AVal.agg [(Dat.int IntKind.i64 v_e0, Own.none), (Dat.int IntKind.i64 v_e1, Own.none), (Dat.int IntKind.i64 v_e2, Own.none), (Dat.int IntKind.i64 v_e3, Own.none), (Dat.str v_e4, Own.none), (Dat.str v_e5, Own.none), (Dat.str v_e6, Own.none), (Dat.sl v_e7, Own.none)]], [] => X v_e0 v_e1 v_e2 v_e3 v_e4 v_e5 v_e6 v_e7 γ (fun r0 => K ([(AVal.dat (Dat.bool r0), Own.none)], []))
  | a, s => F a s γ K
def T_ref10_Large (x_ref10_large : Ty_ref10_large) : CallK := (addK noneK 17 (P_ref10_large x_ref10_large none3))
def L_ref10_Large (x_ref10_large : Ty_ref10_large) : LoopK := noneL
def Sp.B_ref10_Large (x_ref10_large : Ty_ref10_large) (v_e0 : Int) (v_e1 : Int) (v_e2 : Int) (v_e3 : Int) (v_e4 : ByteArray) (v_e5 : ByteArray) (v_e6 : ByteArray) (v_e7 : List (List Dat)) (γ : Type) (K : Bool → Option γ) : Option γ := x_ref10_large v_e0 v_e1 v_e2 v_e3 v_e4 v_e5 v_e6 v_e7 0 0 γ fun (z10 : Bool) (z11 : Int) => K z10
theorem e_ref10_Large (p : Par) (x_ref10_large : Ty_ref10_large) (v_e0 : Int) (v_e1 : Int) (v_e2 : Int) (v_e3 : Int) (v_e4 : ByteArray) (v_e5 : ByteArray) (v_e6 : ByteArray) (v_e7 : List (List Dat)) (γ : Type) (K : List Ent × Sig → Option γ) : evFK (cfg p) (T_ref10_Large x_ref10_large) (L_ref10_Large x_ref10_large) 4 [AVal.agg [(Dat.int IntKind.i64 v_e0, Own.none), (Dat.int IntKind.i64 v_e1, Own.none), (Dat.int IntKind.i64 v_e2, Own.none), (Dat.int IntKind.i64 v_e3, Own.none), (Dat.str v_e4, Own.none), (Dat.str v_e5, Own.none), (Dat.str v_e6, Own.none), (Dat.sl v_e7, Own.none)]] [] γ K = Sp.B_ref10_Large x_ref10_large v_e0 v_e1 v_e2 v_e3 v_e4 v_e5 v_e6 v_e7 γ (fun r0 => K ([(AVal.dat (Dat.bool r0), Own.none)], [])) := by kernel_rfl
def Sp.ref10_Large : Ty_ref10_Large := Sp.B_ref10_Large (Sp.ref10_large fuel)
theorem E_ref10_Large (p : Par) {F : Ent3} (hF : EntOk (cfg p) 4 F) : EntOk (cfg p) 4 (P_ref10_Large Sp.ref10_Large F) := by
  intro a s γ K q h
  unfold P_ref10_Large at h
  split at h
  · exact body_ok (tab_call (tab_nil _) (E_ref10_large p fuel (ent_none _ _))) rfl ((e_ref10_Large p _ _ _ _ _ _ _ _ _ _ _).trans h)
  · exact hF _ _ _ _ _ h
abbrev Ty_expr_Column : Type 1 := ByteArray → ByteArray → (γ : Type) → (Int → Int → Int → Int → ByteArray → ByteArray → ByteArray → List (List Dat) → Option γ) → Option γ
def P_expr_Column (X : Ty_expr_Column) (F : Ent3) : Ent3 := fun a s γ K => match a, s with
  | [AVal.dat (Dat.str v_tab), AVal.dat (Dat.str v_col)], [] => X v_tab v_col γ (fun r0 r1 r2 r3 r4 r5 r6 r7 => K ([(AVal.agg [(Dat.int IntKind.i64 r0, Own.none), (Dat.int IntKind.i64 r1, Own.none), (Dat.int IntKind.i64 r2, Own.none), (Dat.int IntKind.i64 r3, Own.none), (Dat.str r4, Own.none), (Dat.str r5, Own.none), (Dat.str r6, Own.none), (Dat.sl r7, Own.none)], Own.none)], []))
  | a, s => F a s γ K
def T_expr_Column  : CallK := noneK
def L_expr_Column  : LoopK := noneL
def Sp.B_expr_Column  (v_tab : ByteArray) (v_col : ByteArray) (γ : Type) (K : Int → Int → Int → Int → ByteArray → ByteArray → ByteArray → List (List Dat) → Option γ) : Option γ := K 2 0 0 0 (bs []) v_tab v_col []
theorem e_expr_Column (p : Par)  (v_tab : ByteArray) (v_col : ByteArray) (γ : Type) (K : List Ent × Sig → Option γ) : evFK (cfg p) (T_expr_Column ) (L_expr_Column ) 9 [AVal.dat (Dat.str v_tab), AVal.dat (Dat.str v_col)] [] γ K = Sp.B_expr_Column  v_tab v_col γ (fun r0 r1 r2 r3 r4 r5 r6 r7 => K ([(AVal.agg [(Dat.int IntKind.i64 r0, Own.none), (Dat.int IntKind.i64 r1, Own.none), (Dat.int IntKind.i64 r2, Own.none), (Dat.int IntKind.i64 r3, Own.none), (Dat.str r4, Own.none), (Dat.str r5, Own.none), (Dat.str r6, Own.none), (Dat.sl r7, Own.none)], Own.none)], [])) := by kernel_rfl
def Sp.expr_Column : Ty_expr_Column := Sp.B_expr_Column 
theorem E_expr_Column (p : Par) {F : Ent3} (hF : EntOk (cfg p) 9 F) : EntOk (cfg p) 9 (P_expr_Column Sp.expr_Column F) := by
  intro a s γ K q h
  unfold P_expr_Column at h
  split at h
  · exact body_ok (tab_nil _) rfl ((e_expr_Column p  _ _ _ _).trans h)
  · exact hF _ _ _ _ _ h
abbrev Ty_ref01_Int : Type 1 := Int → (γ : Type) → (Int → Int → ByteArray → Option γ) → Option γ
def P_ref01_Int (X : Ty_ref01_Int) (F : Ent3) : Ent3 := fun a s γ K => match a, s with
  | [AVal.dat (Dat.int IntKind.i64 v_n)], [] => X v_n γ (fun r0 r1 r2 => K ([(AVal.agg [(Dat.int IntKind.i64 r0, Own.none), (Dat.int IntKind.i64 r1, Own.none), (Dat.str r2, Own.none)], Own.none)], []))
  | a, s => F a s γ K
def T_ref01_Int  : CallK := noneK
def L_ref01_Int  : LoopK := noneL
def Sp.B_ref01_Int  (v_n : Int) (γ : Type) (K : Int → Int → ByteArray → Option γ) : Option γ := K 2 v_n (bs [])
theorem e_ref01_Int (p : Par)  (v_n : Int) (γ : Type) (K : List Ent × Sig → Option γ) : evFK (cfg p) (T_ref01_Int ) (L_ref01_Int ) 18 [AVal.dat (Dat.int IntKind.i64 v_n)] [] γ K = Sp.B_ref01_Int  v_n γ (fun r0 r1 r2 => K ([(AVal.agg [(Dat.int IntKind.i64 r0, Own.none), (Dat.int IntKind.i64 r1, Own.none), (Dat.str r2, Own.none)], Own.none)], [])) := by kernel_rfl
def Sp.ref01_Int : Ty_ref01_Int := Sp.B_ref01_Int 
theorem E_ref01_Int (p : Par) {F : Ent3} (hF : EntOk (cfg p) 18 F) : EntOk (cfg p) 18 (P_ref01_Int Sp.ref01_Int F) := by
  intro a s γ K q h
  unfold P_ref01_Int at h
  split at h
  · exact body_ok (tab_nil _) rfl ((e_ref01_Int p  _ _ _).trans h)
  · exact hF _ _ _ _ _ h
abbrev Ty_expr_Lit : Type 1 := Int → Int → ByteArray → (γ : Type) → (Int → Int → Int → Int → ByteArray → ByteArray → ByteArray → List (List Dat) → Option γ) → Option γ
def P_expr_Lit (X : Ty_expr_Lit) (F : Ent3) : Ent3 := fun a s γ K => match a, s with
  | [AVal.agg [(Dat.int IntKind.i64 v_v0, Own.none), (Dat.int IntKind.i64 v_v1, Own.none), (Dat.str v_v2, Own.none)]], [] => X v_v0 v_v1 v_v2 γ (fun r0 r1 r2 r3 r4 r5 r6 r7 => K ([(AVal.agg [(Dat.int IntKind.i64 r0, Own.none), (Dat.int IntKind.i64 r1, Own.none), (Dat.int IntKind.i64 r2, Own.none), (Dat.int IntKind.i64 r3, Own.none), (Dat.str r4, Own.none), (Dat.str r5, Own.none), (Dat.str r6, Own.none), (Dat.sl r7, Own.none)], Own.none)], []))
  | a, s => F a s γ K
def T_expr_Lit  : CallK := noneK
def L_expr_Lit  : LoopK := noneL
def Sp.B_expr_Lit  (v_v0 : Int) (v_v1 : Int) (v_v2 : ByteArray) (γ : Type) (K : Int → Int → Int → Int → ByteArray → ByteArray → ByteArray → List (List Dat) → Option γ) : Option γ := K 1 0 v_v0 v_v1 v_v2 (bs []) (bs []) []
theorem e_expr_Lit (p : Par)  (v_v0 : Int) (v_v1 : Int) (v_v2 : ByteArray) (γ : Type) (K : List Ent × Sig → Option γ) : evFK (cfg p) (T_expr_Lit ) (L_expr_Lit ) 7 [AVal.agg [(Dat.int IntKind.i64 v_v0, Own.none), (Dat.int IntKind.i64 v_v1, Own.none), (Dat.str v_v2, Own.none)]] [] γ K = Sp.B_expr_Lit  v_v0 v_v1 v_v2 γ (fun r0 r1 r2 r3 r4 r5 r6 r7 => K ([(AVal.agg [(Dat.int IntKind.i64 r0, Own.none), (Dat.int IntKind.i64 r1, Own.none), (Dat.int IntKind.i64 r2, Own.none), (Dat.int IntKind.i64 r3, Own.none), (Dat.str r4, Own.none), (Dat.str r5, Own.none), (Dat.str r6, Own.none), (Dat.sl r7, Own.none)], Own.none)], [])) := by kernel_rfl
def Sp.expr_Lit : Ty_expr_Lit := Sp.B_expr_Lit 
theorem E_expr_Lit (p : Par) {F : Ent3} (hF : EntOk (cfg p) 7 F) : EntOk (cfg p) 7 (P_expr_Lit Sp.expr_Lit F) := by
  intro a s γ K q h
  unfold P_expr_Lit at h
  split at h
  · exact body_ok (tab_nil _) rfl ((e_expr_Lit p  _ _ _ _ _).trans h)
  · exact hF _ _ _ _ _ h
abbrev Ty_slices_Clone_api_Expr_api_Expr : Type 1 := List (List Dat) → (γ : Type) → (List (List Dat) → Option γ) → Option γ
def P_slices_Clone_api_Expr_api_Expr (X : Ty_slices_Clone_api_Expr_api_Expr) (F : Ent3) : Ent3 := fun a s γ K => match a, s with
  | [AVal.dat (Dat.sl v_s)], [] => X v_s γ (fun x0 => K ([(AVal.dat (Dat.sl x0), Own.id 0 8)], []))
  | a, s => F a s γ K
def Sp.slices_Clone_api_Expr_api_Expr : Ty_slices_Clone_api_Expr_api_Expr := fun v_s γ K => bif sized v_s 8 && decide (List.length v_s * 104 ≤ 140737488355328) && decide (List.length v_s ≤ 140737488355328) then K v_s else none
theorem e_slices_Clone_api_Expr_api_Expr (v_s : List (List Dat)) (γ : Type) (K : List Ent × Sig → Option γ) : Go.Aev.cloneS 8 104 [AVal.dat (Dat.sl v_s)] [] γ K = Sp.slices_Clone_api_Expr_api_Expr v_s γ (fun x0 => K ([(AVal.dat (Dat.sl x0), Own.id 0 8)], [])) := by kernel_rfl
theorem E_slices_Clone_api_Expr_api_Expr (p : Par) {F : Ent3} (hF : EntOk (cfg p) 28 F) : EntOk (cfg p) 28 (P_slices_Clone_api_Expr_api_Expr Sp.slices_Clone_api_Expr_api_Expr F) := by
  intro a s γ K q h
  unfold P_slices_Clone_api_Expr_api_Expr at h
  split at h
  · exact ent_primS (S := Go.Aev.cloneS 8 104) rfl Go.Aev.cloneS_cps _ _ _ _ _ ((e_slices_Clone_api_Expr_api_Expr _ _ _).trans h)
  · exact hF _ _ _ _ _ h
abbrev Ty_expr_Op : Type 1 := Int → List (List Dat) → (γ : Type) → (Int → Int → Int → Int → ByteArray → ByteArray → ByteArray → List (List Dat) → Option γ) → Option γ
def P_expr_Op (X : Ty_expr_Op) (F : Ent3) : Ent3 := fun a s γ K => match a, s with
  | [AVal.dat (Dat.int IntKind.i64 v_n), AVal.dat (Dat.sl v_l)], [] => X v_n v_l γ (fun r0 r1 r2 r3 r4 r5 r6 r7 => K ([(AVal.agg [(Dat.int IntKind.i64 r0, Own.none), (Dat.int IntKind.i64 r1, Own.none), (Dat.int IntKind.i64 r2, Own.none), (Dat.int IntKind.i64 r3, Own.none), (Dat.str r4, Own.none), (Dat.str r5, Own.none), (Dat.str r6, Own.none), (Dat.sl r7, Own.none)], Own.none)], []))
  | a, s => F a s γ K
def T_expr_Op (x_slices_Clone_api_Expr_api_Expr : Ty_slices_Clone_api_Expr_api_Expr) : CallK := (addK noneK 28 (P_slices_Clone_api_Expr_api_Expr x_slices_Clone_api_Expr_api_Expr none3))
def L_expr_Op (x_slices_Clone_api_Expr_api_Expr : Ty_slices_Clone_api_Expr_api_Expr) : LoopK := noneL
def Sp.B_expr_Op (x_slices_Clone_api_Expr_api_Expr : Ty_slices_Clone_api_Expr_api_Expr) (v_n : Int) (v_l : List (List Dat)) (γ : Type) (K : Int → Int → Int → Int → ByteArray → ByteArray → ByteArray → List (List Dat) → Option γ) : Option γ := x_slices_Clone_api_Expr_api_Expr v_l γ fun (z4 : List (List Dat)) => K 3 v_n 0 0 (bs []) (bs []) (bs []) z4
theorem e_expr_Op (p : Par) (x_slices_Clone_api_Expr_api_Expr : Ty_slices_Clone_api_Expr_api_Expr) (v_n : Int) (v_l : List (List Dat)) (γ : Type) (K : List Ent × Sig → Option γ) : evFK (cfg p) (T_expr_Op x_slices_Clone_api_Expr_api_Expr) (L_expr_Op x_slices_Clone_api_Expr_api_Expr) 11 [AVal.dat (Dat.int IntKind.i64 v_n), AVal.dat (Dat.sl v_l)] [] γ K = Sp.B_expr_Op x_slices_Clone_api_Expr_api_Expr v_n v_l γ (fun r0 r1 r2 r3 r4 r5 r6 r7 => K ([(AVal.agg [(Dat.int IntKind.i64 r0, Own.none), (Dat.int IntKind.i64 r1, Own.none), (Dat.int IntKind.i64 r2, Own.none), (Dat.int IntKind.i64 r3, Own.none), (Dat.str r4, Own.none), (Dat.str r5, Own.none), (Dat.str r6, Own.none), (Dat.sl r7, Own.none)], Own.none)], [])) := by kernel_rfl
def Sp.expr_Op : Ty_expr_Op := Sp.B_expr_Op Sp.slices_Clone_api_Expr_api_Expr
theorem E_expr_Op (p : Par) {F : Ent3} (hF : EntOk (cfg p) 11 F) : EntOk (cfg p) 11 (P_expr_Op Sp.expr_Op F) := by
  intro a s γ K q h
  unfold P_expr_Op at h
  split at h
  · exact body_ok (tab_call (tab_nil _) (E_slices_Clone_api_Expr_api_Expr p (ent_none _ _))) rfl ((e_expr_Op p _ _ _ _ _).trans h)
  · exact hF _ _ _ _ _ h
abbrev Ty_value_Check : Type 1 := Int → Int → ByteArray → (γ : Type) → (Int → Option γ) → Option γ
def P_value_Check (X : Ty_value_Check) (F : Ent3) : Ent3 := fun a s γ K => match a, s with
  | [AVal.agg [(Dat.int IntKind.i64 v_v0, Own.none), (Dat.int IntKind.i64 v_v1, Own.none), (Dat.str v_v2, Own.none)]], [] => X v_v0 v_v1 v_v2 γ (fun r0 => K ([(AVal.dat (Dat.int IntKind.i64 r0), Own.none)], []))
  | a, s => F a s γ K
def T_value_Check  : CallK := noneK
def L_value_Check  : LoopK := noneL
def Sp.B_value_Check  (v_v0 : Int) (v_v1 : Int) (v_v2 : ByteArray) (γ : Type) (K : Int → Option γ) : Option γ := bif decide (v_v0 = 0) then bif !(decide (v_v0 = 0) && (decide (v_v1 = 0) && (decide (v_v2 = bs []) && true))) then K 10 else K 0 else bif decide (v_v0 = 1) then bif decide (Int.fdiv v_v1 2 = 0) then bif !decide (v_v2 = bs []) then K 10 else K 0 else K 10 else bif decide (v_v0 = 2) then bif decide (-9007199254740991 ≤ v_v1) then bif decide (v_v1 ≤ 9007199254740991) then bif !decide (v_v2 = bs []) then K 10 else K 0 else K 10 else K 10 else bif decide (v_v0 = 3) then bif decide (v_v1 = 0) then bif !decide (Int.ofNat (ByteArray.size v_v2) ≤ 64) then K 10 else K 0 else K 10 else K 10
theorem e_value_Check (p : Par)  (v_v0 : Int) (v_v1 : Int) (v_v2 : ByteArray) (γ : Type) (K : List Ent × Sig → Option γ) : evFK (cfg p) (T_value_Check ) (L_value_Check ) 42 [AVal.agg [(Dat.int IntKind.i64 v_v0, Own.none), (Dat.int IntKind.i64 v_v1, Own.none), (Dat.str v_v2, Own.none)]] [] γ K = Sp.B_value_Check  v_v0 v_v1 v_v2 γ (fun r0 => K ([(AVal.dat (Dat.int IntKind.i64 r0), Own.none)], [])) := by kernel_rfl
def Sp.value_Check : Ty_value_Check := Sp.B_value_Check 
theorem E_value_Check (p : Par) {F : Ent3} (hF : EntOk (cfg p) 42 F) : EntOk (cfg p) 42 (P_value_Check Sp.value_Check F) := by
  intro a s γ K q h
  unfold P_value_Check at h
  split at h
  · exact body_ok (tab_nil _) rfl ((e_value_Check p  _ _ _ _ _).trans h)
  · exact hF _ _ _ _ _ h
abbrev Ty_expr_literal : Type 1 := Int → Int → Int → Int → ByteArray → ByteArray → ByteArray → List (List Dat) → (γ : Type) → (Bool → Option γ) → Option γ
def P_expr_literal (X : Ty_expr_literal) (F : Ent3) : Ent3 := fun a s γ K => match a, s with
  | [AVal.agg [(Dat.int IntKind.i64 v_e0, Own.none), (Dat.int IntKind.i64 v_e1, Own.none), (Dat.int IntKind.i64 v_e2, Own.none), (Dat.int IntKind.i64 v_e3, Own.none), (Dat.str v_e4, Own.none), (Dat.str v_e5, Own.none), (Dat.str v_e6, Own.none), (Dat.sl v_e7, Own.none)]], [] => X v_e0 v_e1 v_e2 v_e3 v_e4 v_e5 v_e6 v_e7 γ (fun r0 => K ([(AVal.dat (Dat.bool r0), Own.none)], []))
  | a, s => F a s γ K
def T_expr_literal (x_value_Check : Ty_value_Check) : CallK := (addK noneK 42 (P_value_Check x_value_Check none3))
def L_expr_literal (x_value_Check : Ty_value_Check) : LoopK := noneL
def Sp.B_expr_literal (x_value_Check : Ty_value_Check) (v_e0 : Int) (v_e1 : Int) (v_e2 : Int) (v_e3 : Int) (v_e4 : ByteArray) (v_e5 : ByteArray) (v_e6 : ByteArray) (v_e7 : List (List Dat)) (γ : Type) (K : Bool → Option γ) : Option γ := x_value_Check v_e2 v_e3 v_e4 γ fun (z10 : Int) => bif decide (z10 = 0) then bif !decide (v_e2 = 2) then bif decide (v_e1 = 0) then bif decide (v_e5 = bs []) then bif decide (v_e6 = bs []) then K (decide (Int.ofNat (List.length v_e7) = 0)) else K false else K false else K false else bif decide (0 ≤ v_e3) then bif decide (v_e1 = 0) then bif decide (v_e5 = bs []) then bif decide (v_e6 = bs []) then K (decide (Int.ofNat (List.length v_e7) = 0)) else K false else K false else K false else K false else K false
theorem e_expr_literal (p : Par) (x_value_Check : Ty_value_Check) (v_e0 : Int) (v_e1 : Int) (v_e2 : Int) (v_e3 : Int) (v_e4 : ByteArray) (v_e5 : ByteArray) (v_e6 : ByteArray) (v_e7 : List (List Dat)) (γ : Type) (K : List Ent × Sig → Option γ) : evFK (cfg p) (T_expr_literal x_value_Check) (L_expr_literal x_value_Check) 45 [AVal.agg [(Dat.int IntKind.i64 v_e0, Own.none), (Dat.int IntKind.i64 v_e1, Own.none), (Dat.int IntKind.i64 v_e2, Own.none), (Dat.int IntKind.i64 v_e3, Own.none), (Dat.str v_e4, Own.none), (Dat.str v_e5, Own.none), (Dat.str v_e6, Own.none), (Dat.sl v_e7, Own.none)]] [] γ K = Sp.B_expr_literal x_value_Check v_e0 v_e1 v_e2 v_e3 v_e4 v_e5 v_e6 v_e7 γ (fun r0 => K ([(AVal.dat (Dat.bool r0), Own.none)], [])) := by kernel_rfl
def Sp.expr_literal : Ty_expr_literal := Sp.B_expr_literal Sp.value_Check
theorem E_expr_literal (p : Par) {F : Ent3} (hF : EntOk (cfg p) 45 F) : EntOk (cfg p) 45 (P_expr_literal Sp.expr_literal F) := by
  intro a s γ K q h
  unfold P_expr_literal at h
  split at h
  · exact body_ok (tab_call (tab_nil _) (E_value_Check p (ent_none _ _))) rfl ((e_expr_literal p _ _ _ _ _ _ _ _ _ _ _).trans h)
  · exact hF _ _ _ _ _ h
abbrev Ty_lex_letter : Type 1 := Int → (γ : Type) → (Bool → Option γ) → Option γ
def P_lex_letter (X : Ty_lex_letter) (F : Ent3) : Ent3 := fun a s γ K => match a, s with
  | [AVal.dat (Dat.int IntKind.u8 v_c)], [] => X v_c γ (fun r0 => K ([(AVal.dat (Dat.bool r0), Own.none)], []))
  | a, s => F a s γ K
def T_lex_letter  : CallK := noneK
def L_lex_letter  : LoopK := noneL
def Sp.B_lex_letter  (v_c : Int) (γ : Type) (K : Bool → Option γ) : Option γ := bif decide (97 ≤ IntKind.wrap IntKind.u8 (Int.ofNat (BitVec.toFin (BitVec.ofInt (IntKind.bits IntKind.u8) v_c ||| BitVec.ofInt (IntKind.bits IntKind.u8) 32)).1)) then bif decide (IntKind.wrap IntKind.u8 (Int.ofNat (BitVec.toFin (BitVec.ofInt (IntKind.bits IntKind.u8) v_c ||| BitVec.ofInt (IntKind.bits IntKind.u8) 32)).1) ≤ 122) then K true else K (decide (v_c = 95)) else K (decide (v_c = 95))
theorem e_lex_letter (p : Par)  (v_c : Int) (γ : Type) (K : List Ent × Sig → Option γ) : evFK (cfg p) (T_lex_letter ) (L_lex_letter ) 59 [AVal.dat (Dat.int IntKind.u8 v_c)] [] γ K = Sp.B_lex_letter  v_c γ (fun r0 => K ([(AVal.dat (Dat.bool r0), Own.none)], [])) := by kernel_rfl
def Sp.lex_letter : Ty_lex_letter := Sp.B_lex_letter 
theorem E_lex_letter (p : Par) {F : Ent3} (hF : EntOk (cfg p) 59 F) : EntOk (cfg p) 59 (P_lex_letter Sp.lex_letter F) := by
  intro a s γ K q h
  unfold P_lex_letter at h
  split at h
  · exact body_ok (tab_nil _) rfl ((e_lex_letter p  _ _ _).trans h)
  · exact hF _ _ _ _ _ h
abbrev Ty_lex_scanner_left : Type 1 := ByteArray → Int → (γ : Type) → (Bool → ByteArray → Int → Option γ) → Option γ
def P_lex_scanner_left (X : Ty_lex_scanner_left) (F : Ent3) : Ent3 := fun a s γ K => match a, s with
  | [AVal.ref 0 0], [Box.cells [AVal.dat (Dat.str b0), AVal.dat (Dat.int IntKind.i64 b1)]] => X b0 b1 γ (fun r0 r1 r2 => K ([(AVal.dat (Dat.bool r0), Own.none)], [Box.cells [AVal.dat (Dat.str r1), AVal.dat (Dat.int IntKind.i64 r2)]]))
  | a, s => F a s γ K
def T_lex_scanner_left  : CallK := noneK
def L_lex_scanner_left  : LoopK := noneL
def Sp.B_lex_scanner_left  (b0 : ByteArray) (b1 : Int) (γ : Type) (K : Bool → ByteArray → Int → Option γ) : Option γ := K (decide (b1 < Int.ofNat (ByteArray.size b0))) b0 b1
theorem e_lex_scanner_left (p : Par)  (b0 : ByteArray) (b1 : Int) (γ : Type) (K : List Ent × Sig → Option γ) : evFK (cfg p) (T_lex_scanner_left ) (L_lex_scanner_left ) 72 [AVal.ref 0 0] [Box.cells [AVal.dat (Dat.str b0), AVal.dat (Dat.int IntKind.i64 b1)]] γ K = Sp.B_lex_scanner_left  b0 b1 γ (fun r0 r1 r2 => K ([(AVal.dat (Dat.bool r0), Own.none)], [Box.cells [AVal.dat (Dat.str r1), AVal.dat (Dat.int IntKind.i64 r2)]])) := by kernel_rfl
def Sp.lex_scanner_left : Ty_lex_scanner_left := Sp.B_lex_scanner_left 
theorem E_lex_scanner_left (p : Par) {F : Ent3} (hF : EntOk (cfg p) 72 F) : EntOk (cfg p) 72 (P_lex_scanner_left Sp.lex_scanner_left F) := by
  intro a s γ K q h
  unfold P_lex_scanner_left at h
  split at h
  · exact body_ok (tab_nil _) rfl ((e_lex_scanner_left p  _ _ _ _).trans h)
  · exact hF _ _ _ _ _ h
abbrev Ty_lex_digit : Type 1 := Int → (γ : Type) → (Bool → Option γ) → Option γ
def P_lex_digit (X : Ty_lex_digit) (F : Ent3) : Ent3 := fun a s γ K => match a, s with
  | [AVal.dat (Dat.int IntKind.u8 v_c)], [] => X v_c γ (fun r0 => K ([(AVal.dat (Dat.bool r0), Own.none)], []))
  | a, s => F a s γ K
def T_lex_digit  : CallK := noneK
def L_lex_digit  : LoopK := noneL
def Sp.B_lex_digit  (v_c : Int) (γ : Type) (K : Bool → Option γ) : Option γ := bif decide (48 ≤ v_c) then K (decide (v_c ≤ 57)) else K false
theorem e_lex_digit (p : Par)  (v_c : Int) (γ : Type) (K : List Ent × Sig → Option γ) : evFK (cfg p) (T_lex_digit ) (L_lex_digit ) 73 [AVal.dat (Dat.int IntKind.u8 v_c)] [] γ K = Sp.B_lex_digit  v_c γ (fun r0 => K ([(AVal.dat (Dat.bool r0), Own.none)], [])) := by kernel_rfl
def Sp.lex_digit : Ty_lex_digit := Sp.B_lex_digit 
theorem E_lex_digit (p : Par) {F : Ent3} (hF : EntOk (cfg p) 73 F) : EntOk (cfg p) 73 (P_lex_digit Sp.lex_digit F) := by
  intro a s γ K q h
  unfold P_lex_digit at h
  split at h
  · exact body_ok (tab_nil _) rfl ((e_lex_digit p  _ _ _).trans h)
  · exact hF _ _ _ _ _ h
abbrev Ty_lex_scanner_run_L0 : Type 1 := Int → ByteArray → Int → (γ : Type) → (Ex → ByteArray → Int → Option γ) → Option γ
def P_lex_scanner_run_L0 (X : Ty_lex_scanner_run_L0) (F : Loop3) : Loop3 := fun a s γ K => match a, s with
  | [AVal.ref 0 0, AVal.dat (Dat.int IntKind.i64 v_from)], ([], [Box.cells [AVal.dat (Dat.str b0), AVal.dat (Dat.int IntKind.i64 b1)]]) => X v_from b0 b1 γ (fun e x0 x1 => K (e, ([], [Box.cells [AVal.dat (Dat.str x0), AVal.dat (Dat.int IntKind.i64 x1)]])))
  | a, s => F a s γ K
def T_lex_scanner_run_L0 (x_lex_scanner_left : Ty_lex_scanner_left) (x_lex_letter : Ty_lex_letter) (x_lex_digit : Ty_lex_digit) : CallK := (addK (addK (addK noneK 72 (P_lex_scanner_left x_lex_scanner_left none3)) 59 (P_lex_letter x_lex_letter none3)) 73 (P_lex_digit x_lex_digit none3))
def L_lex_scanner_run_L0 (x_lex_scanner_left : Ty_lex_scanner_left) (x_lex_letter : Ty_lex_letter) (x_lex_digit : Ty_lex_digit) : LoopK := noneL
def Sp.B_lex_scanner_run_L0 (x_lex_scanner_run_L0 : Ty_lex_scanner_run_L0) (x_lex_scanner_left : Ty_lex_scanner_left) (x_lex_letter : Ty_lex_letter) (x_lex_digit : Ty_lex_digit) (v_from : Int) (b0 : ByteArray) (b1 : Int) (γ : Type) (K : Ex → ByteArray → Int → Option γ) : Option γ := x_lex_scanner_left b0 b1 γ fun (z5 : Bool) (z6 : ByteArray) (z7 : Int) => bif z5 then byteAt z6 z7 fun (z8 : UInt8) => x_lex_letter (Int.ofNat (BitVec.toFin (UInt8.toBitVec z8)).1) γ fun (z9 : Bool) => bif z9 then x_lex_scanner_run_L0 v_from z6 (IntKind.wrap IntKind.i64 (z7 + 1)) γ K else byteAt z6 z7 fun (z10 : UInt8) => x_lex_digit (Int.ofNat (BitVec.toFin (UInt8.toBitVec z10)).1) γ fun (z11 : Bool) => bif z11 then x_lex_scanner_run_L0 v_from z6 (IntKind.wrap IntKind.i64 (z7 + 1)) γ K else K (Ex.exit 0) z6 z7 else K (Ex.exit 0) z6 z7
theorem e_lex_scanner_run_L0 (p : Par) (x_lex_scanner_run_L0 : Ty_lex_scanner_run_L0) (x_lex_scanner_left : Ty_lex_scanner_left) (x_lex_letter : Ty_lex_letter) (x_lex_digit : Ty_lex_digit) (v_from : Int) (b0 : ByteArray) (b1 : Int) (γ : Type) (K : Ex × Vars → Option γ) : roundK (cfg p) (T_lex_scanner_run_L0 x_lex_scanner_left x_lex_letter x_lex_digit) (L_lex_scanner_run_L0 x_lex_scanner_left x_lex_letter x_lex_digit) 60 0 [AVal.ref 0 0, AVal.dat (Dat.int IntKind.i64 v_from)] ([], [Box.cells [AVal.dat (Dat.str b0), AVal.dat (Dat.int IntKind.i64 b1)]]) γ (contL (fun v => P_lex_scanner_run_L0 x_lex_scanner_run_L0 noneL3 [AVal.ref 0 0, AVal.dat (Dat.int IntKind.i64 v_from)] v γ K) K) = Sp.B_lex_scanner_run_L0 x_lex_scanner_run_L0 x_lex_scanner_left x_lex_letter x_lex_digit v_from b0 b1 γ (fun e x0 x1 => K (e, ([], [Box.cells [AVal.dat (Dat.str x0), AVal.dat (Dat.int IntKind.i64 x1)]]))) := by kernel_rfl
def Sp.lex_scanner_run_L0 : Nat → Ty_lex_scanner_run_L0
  | 0 => fun _ _ _ _ _ => none
  | n + 1 => Sp.B_lex_scanner_run_L0 (Sp.lex_scanner_run_L0 n) Sp.lex_scanner_left Sp.lex_letter Sp.lex_digit
theorem E0_lex_scanner_run_L0 (p : Par)   : ∀ n, EntOkL (cfg p) 60 0 (P_lex_scanner_run_L0 (Sp.lex_scanner_run_L0  n) noneL3) := entL_rounds (tab_call (tab_call (tab_call (tab_nil _) (E_lex_scanner_left p (ent_none _ _))) (E_lex_letter p (ent_none _ _))) (E_lex_digit p (ent_none _ _))) (by kernel_rfl) (fun c v γ K => by unfold P_lex_scanner_run_L0; split <;> rfl) fun n c v γ K q h => by
  unfold P_lex_scanner_run_L0 at h
  split at h
  · exact (e_lex_scanner_run_L0 p _ _ _ _ _ _ _ _ _).trans h
  · cases h
theorem E_lex_scanner_run_L0 (p : Par)   (n : Nat) {F : Loop3} (hF : EntOkL (cfg p) 60 0 F) : EntOkL (cfg p) 60 0 (P_lex_scanner_run_L0 (Sp.lex_scanner_run_L0  n) F) := by
  intro c v γ K q h
  unfold P_lex_scanner_run_L0 at h
  split at h
  · exact E0_lex_scanner_run_L0 p   n _ _ _ _ _ h
  · exact hF _ _ _ _ _ h
abbrev Ty_lex_scanner_run : Type 1 := ByteArray → Int → (γ : Type) → (ByteArray → ByteArray → Int → Option γ) → Option γ
def P_lex_scanner_run (X : Ty_lex_scanner_run) (F : Ent3) : Ent3 := fun a s γ K => match a, s with
  | [AVal.ref 0 0], [Box.cells [AVal.dat (Dat.str b0), AVal.dat (Dat.int IntKind.i64 b1)]] => X b0 b1 γ (fun r0 r1 r2 => K ([(AVal.dat (Dat.str r0), Own.none)], [Box.cells [AVal.dat (Dat.str r1), AVal.dat (Dat.int IntKind.i64 r2)]]))
  | a, s => F a s γ K
def T_lex_scanner_run (x_lex_scanner_run_L0 : Ty_lex_scanner_run_L0) : CallK := noneK
def L_lex_scanner_run (x_lex_scanner_run_L0 : Ty_lex_scanner_run_L0) : LoopK := (addL noneL 60 0 (P_lex_scanner_run_L0 x_lex_scanner_run_L0 noneL3))
def Sp.B_lex_scanner_run (x_lex_scanner_run_L0 : Ty_lex_scanner_run_L0) (b0 : ByteArray) (b1 : Int) (γ : Type) (K : ByteArray → ByteArray → Int → Option γ) : Option γ := x_lex_scanner_run_L0 b1 b0 b1 γ fun (z4 : Ex) (z5 : ByteArray) (z6 : Int) => bif Ex.isExit z4 0 then bif decide (0 ≤ b1) && decide (b1 ≤ z6) && decide (z6 ≤ Int.ofNat (ByteArray.size z5)) && true then K (ByteArray.extract z5 (Int.toNat b1) (Int.toNat z6)) z5 z6 else none else bif Ex.isRet z4 then none else none
theorem e_lex_scanner_run (p : Par) (x_lex_scanner_run_L0 : Ty_lex_scanner_run_L0) (b0 : ByteArray) (b1 : Int) (γ : Type) (K : List Ent × Sig → Option γ) : evFK (cfg p) (T_lex_scanner_run x_lex_scanner_run_L0) (L_lex_scanner_run x_lex_scanner_run_L0) 60 [AVal.ref 0 0] [Box.cells [AVal.dat (Dat.str b0), AVal.dat (Dat.int IntKind.i64 b1)]] γ K = Sp.B_lex_scanner_run x_lex_scanner_run_L0 b0 b1 γ (fun r0 r1 r2 => K ([(AVal.dat (Dat.str r0), Own.none)], [Box.cells [AVal.dat (Dat.str r1), AVal.dat (Dat.int IntKind.i64 r2)]])) := by kernel_rfl
def Sp.lex_scanner_run : Ty_lex_scanner_run := Sp.B_lex_scanner_run (Sp.lex_scanner_run_L0 fuel)
theorem E_lex_scanner_run (p : Par) {F : Ent3} (hF : EntOk (cfg p) 60 F) : EntOk (cfg p) 60 (P_lex_scanner_run Sp.lex_scanner_run F) := by
  intro a s γ K q h
  unfold P_lex_scanner_run at h
  split at h
  · exact body_ok (tab_loop (tab_nil _) (E_lex_scanner_run_L0 p fuel (entL_none _ _ _))) rfl ((e_lex_scanner_run p _ _ _ _ _).trans h)
  · exact hF _ _ _ _ _ h
abbrev Ty_lex_Keys : Type 1 := (γ : Type) → (List (List Dat) → Option γ) → Option γ
def P_lex_Keys (X : Ty_lex_Keys) (F : Ent3) : Ent3 := fun a s γ K => match a, s with
  | [], [] => X  γ (fun r0 => K ([(AVal.dat (Dat.sl r0), Own.none)], []))
  | a, s => F a s γ K
def T_lex_Keys (x_strings_Split : Ty_strings_Split) : CallK := (addK noneK 88 (P_strings_Split x_strings_Split none3))
def L_lex_Keys (x_strings_Split : Ty_strings_Split) : LoopK := noneL
def Sp.B_lex_Keys (x_strings_Split : Ty_strings_Split)  (γ : Type) (K : List (List Dat) → Option γ) : Option γ := x_strings_Split (bs [65, 76, 76, 32, 65, 78, 68, 32, 65, 78, 84, 73, 32, 65, 83, 32, 66, 89, 32, 67, 79, 85, 78, 84, 32, 68, 69, 83, 67, 32, 68, 73, 83, 84, 73, 78, 67, 84, 32, 70, 65, 76, 83, 69, 32, 70, 82, 79, 77, 32, 71, 82, 79, 85, 80, 32, 73, 83, 32, 74, 79, 73, 78, 32, 76, 69, 70, 84, 32, 76, 73, 77, 73, 84, 32, 77, 65, 88, 32, 77, 73, 78, 32, 78, 79, 84, 32, 78, 85, 76, 76, 32, 79, 78, 32, 79, 82, 32, 79, 82, 68, 69, 82, 32, 83, 69, 76, 69, 67, 84, 32, 83, 69, 77, 73, 32, 83, 85, 77, 32, 84, 82, 85, 69, 32, 85, 78, 73, 79, 78, 32, 87, 72, 69, 82, 69]) (bs [32]) γ fun (z2 : List (List Dat)) => K z2
theorem e_lex_Keys (p : Par) (x_strings_Split : Ty_strings_Split)  (γ : Type) (K : List Ent × Sig → Option γ) : evFK (cfg p) (T_lex_Keys x_strings_Split) (L_lex_Keys x_strings_Split) 75 [] [] γ K = Sp.B_lex_Keys x_strings_Split  γ (fun r0 => K ([(AVal.dat (Dat.sl r0), Own.none)], [])) := by kernel_rfl
def Sp.lex_Keys : Ty_lex_Keys := Sp.B_lex_Keys Sp.strings_Split
theorem E_lex_Keys (p : Par) {F : Ent3} (hF : EntOk (cfg p) 75 F) : EntOk (cfg p) 75 (P_lex_Keys Sp.lex_Keys F) := by
  intro a s γ K q h
  unfold P_lex_Keys at h
  split at h
  · exact body_ok (tab_call (tab_nil _) (E_strings_Split p (ent_none _ _))) rfl ((e_lex_Keys p _ _ _ ).trans h)
  · exact hF _ _ _ _ _ h
abbrev Ty_slices_Index_string_string_L0 : Type 1 := List (List Dat) → ByteArray → Int → Int → Int → (γ : Type) → (Ex → Int → Int → Option γ) → Option γ
def P_slices_Index_string_string_L0 (X : Ty_slices_Index_string_string_L0) (F : Loop3) : Loop3 := fun a s γ K => match a, s with
  | [AVal.dat (Dat.sl v_s), AVal.dat (Dat.str v_v), AVal.dat (Dat.int IntKind.i64 v_)], ([AVal.dat (Dat.int IntKind.i64 v__1), AVal.dat (Dat.int IntKind.i64 v__2)], []) => X v_s v_v v_ v__1 v__2 γ (fun e x0 x1 => K (e, ([AVal.dat (Dat.int IntKind.i64 x0), AVal.dat (Dat.int IntKind.i64 x1)], [])))
  | a, s => F a s γ K
def T_slices_Index_string_string_L0  : CallK := noneK
def L_slices_Index_string_string_L0  : LoopK := noneL
def Sp.B_slices_Index_string_string_L0 (x_slices_Index_string_string_L0 : Ty_slices_Index_string_string_L0)  (v_s : List (List Dat)) (v_v : ByteArray) (v_ : Int) (v__1 : Int) (v__2 : Int) (γ : Type) (K : Ex → Int → Int → Option γ) : Option γ := bif decide (v__2 < v_) then elemAt v_s v__2 fun (z7 : List Dat) => bif List.length z7 == 1 then cellAt z7 0 fun (z8 : Dat) => asStr z8 fun (z9 : ByteArray) => bif decide (v_v = z9) then K Ex.ret v__2 v__2 else x_slices_Index_string_string_L0 v_s v_v v_ v__1 (IntKind.wrap IntKind.i64 (v__2 + 1)) γ K else none else K (Ex.exit 0) v__1 v__2
theorem e_slices_Index_string_string_L0 (p : Par) (x_slices_Index_string_string_L0 : Ty_slices_Index_string_string_L0)  (v_s : List (List Dat)) (v_v : ByteArray) (v_ : Int) (v__1 : Int) (v__2 : Int) (γ : Type) (K : Ex × Vars → Option γ) : roundK (cfg p) (T_slices_Index_string_string_L0 ) (L_slices_Index_string_string_L0 ) 87 0 [AVal.dat (Dat.sl v_s), AVal.dat (Dat.str v_v), AVal.dat (Dat.int IntKind.i64 v_)] ([AVal.dat (Dat.int IntKind.i64 v__1), AVal.dat (Dat.int IntKind.i64 v__2)], []) γ (contL (fun v => P_slices_Index_string_string_L0 x_slices_Index_string_string_L0 noneL3 [AVal.dat (Dat.sl v_s), AVal.dat (Dat.str v_v), AVal.dat (Dat.int IntKind.i64 v_)] v γ K) K) = Sp.B_slices_Index_string_string_L0 x_slices_Index_string_string_L0  v_s v_v v_ v__1 v__2 γ (fun e x0 x1 => K (e, ([AVal.dat (Dat.int IntKind.i64 x0), AVal.dat (Dat.int IntKind.i64 x1)], []))) := by kernel_rfl
def Sp.slices_Index_string_string_L0 : Nat → Ty_slices_Index_string_string_L0
  | 0 => fun _ _ _ _ _ _ _ => none
  | n + 1 => Sp.B_slices_Index_string_string_L0 (Sp.slices_Index_string_string_L0 n) 
theorem E0_slices_Index_string_string_L0 (p : Par)   : ∀ n, EntOkL (cfg p) 87 0 (P_slices_Index_string_string_L0 (Sp.slices_Index_string_string_L0  n) noneL3) := entL_rounds (tab_nil _) (by kernel_rfl) (fun c v γ K => by unfold P_slices_Index_string_string_L0; split <;> rfl) fun n c v γ K q h => by
  unfold P_slices_Index_string_string_L0 at h
  split at h
  · exact (e_slices_Index_string_string_L0 p _  _ _ _ _ _ _ _).trans h
  · cases h
theorem E_slices_Index_string_string_L0 (p : Par)   (n : Nat) {F : Loop3} (hF : EntOkL (cfg p) 87 0 F) : EntOkL (cfg p) 87 0 (P_slices_Index_string_string_L0 (Sp.slices_Index_string_string_L0  n) F) := by
  intro c v γ K q h
  unfold P_slices_Index_string_string_L0 at h
  split at h
  · exact E0_slices_Index_string_string_L0 p   n _ _ _ _ _ h
  · exact hF _ _ _ _ _ h
abbrev Ty_slices_Index_string_string : Type 1 := List (List Dat) → ByteArray → (γ : Type) → (Int → Option γ) → Option γ
def P_slices_Index_string_string (X : Ty_slices_Index_string_string) (F : Ent3) : Ent3 := fun a s γ K => match a, s with
  | [AVal.dat (Dat.sl v_s), AVal.dat (Dat.str v_v)], [] => X v_s v_v γ (fun r0 => K ([(AVal.dat (Dat.int IntKind.i64 r0), Own.none)], []))
  | a, s => F a s γ K
def T_slices_Index_string_string (x_slices_Index_string_string_L0 : Ty_slices_Index_string_string_L0) : CallK := noneK
def L_slices_Index_string_string (x_slices_Index_string_string_L0 : Ty_slices_Index_string_string_L0) : LoopK := (addL noneL 87 0 (P_slices_Index_string_string_L0 x_slices_Index_string_string_L0 noneL3))
def Sp.B_slices_Index_string_string (x_slices_Index_string_string_L0 : Ty_slices_Index_string_string_L0) (v_s : List (List Dat)) (v_v : ByteArray) (γ : Type) (K : Int → Option γ) : Option γ := x_slices_Index_string_string_L0 v_s v_v (Int.ofNat (List.length v_s)) 0 0 γ fun (z4 : Ex) (z5 z6 : Int) => bif Ex.isExit z4 0 then K (-1) else bif Ex.isRet z4 then K z5 else none
theorem e_slices_Index_string_string (p : Par) (x_slices_Index_string_string_L0 : Ty_slices_Index_string_string_L0) (v_s : List (List Dat)) (v_v : ByteArray) (γ : Type) (K : List Ent × Sig → Option γ) : evFK (cfg p) (T_slices_Index_string_string x_slices_Index_string_string_L0) (L_slices_Index_string_string x_slices_Index_string_string_L0) 87 [AVal.dat (Dat.sl v_s), AVal.dat (Dat.str v_v)] [] γ K = Sp.B_slices_Index_string_string x_slices_Index_string_string_L0 v_s v_v γ (fun r0 => K ([(AVal.dat (Dat.int IntKind.i64 r0), Own.none)], [])) := by kernel_rfl
def Sp.slices_Index_string_string : Ty_slices_Index_string_string := Sp.B_slices_Index_string_string (Sp.slices_Index_string_string_L0 fuel)
theorem E_slices_Index_string_string (p : Par) {F : Ent3} (hF : EntOk (cfg p) 87 F) : EntOk (cfg p) 87 (P_slices_Index_string_string Sp.slices_Index_string_string F) := by
  intro a s γ K q h
  unfold P_slices_Index_string_string at h
  split at h
  · exact body_ok (tab_loop (tab_nil _) (E_slices_Index_string_string_L0 p fuel (entL_none _ _ _))) rfl ((e_slices_Index_string_string p _ _ _ _ _).trans h)
  · exact hF _ _ _ _ _ h
abbrev Ty_slices_Contains_string_string : Type 1 := List (List Dat) → ByteArray → (γ : Type) → (Bool → Option γ) → Option γ
def P_slices_Contains_string_string (X : Ty_slices_Contains_string_string) (F : Ent3) : Ent3 := fun a s γ K => match a, s with
  | [AVal.dat (Dat.sl v_s), AVal.dat (Dat.str v_v)], [] => X v_s v_v γ (fun r0 => K ([(AVal.dat (Dat.bool r0), Own.none)], []))
  | a, s => F a s γ K
def T_slices_Contains_string_string (x_slices_Index_string_string : Ty_slices_Index_string_string) : CallK := (addK noneK 87 (P_slices_Index_string_string x_slices_Index_string_string none3))
def L_slices_Contains_string_string (x_slices_Index_string_string : Ty_slices_Index_string_string) : LoopK := noneL
def Sp.B_slices_Contains_string_string (x_slices_Index_string_string : Ty_slices_Index_string_string) (v_s : List (List Dat)) (v_v : ByteArray) (γ : Type) (K : Bool → Option γ) : Option γ := x_slices_Index_string_string v_s v_v γ fun (z4 : Int) => K (decide (0 ≤ z4))
theorem e_slices_Contains_string_string (p : Par) (x_slices_Index_string_string : Ty_slices_Index_string_string) (v_s : List (List Dat)) (v_v : ByteArray) (γ : Type) (K : List Ent × Sig → Option γ) : evFK (cfg p) (T_slices_Contains_string_string x_slices_Index_string_string) (L_slices_Contains_string_string x_slices_Index_string_string) 74 [AVal.dat (Dat.sl v_s), AVal.dat (Dat.str v_v)] [] γ K = Sp.B_slices_Contains_string_string x_slices_Index_string_string v_s v_v γ (fun r0 => K ([(AVal.dat (Dat.bool r0), Own.none)], [])) := by kernel_rfl
def Sp.slices_Contains_string_string : Ty_slices_Contains_string_string := Sp.B_slices_Contains_string_string Sp.slices_Index_string_string
theorem E_slices_Contains_string_string (p : Par) {F : Ent3} (hF : EntOk (cfg p) 74 F) : EntOk (cfg p) 74 (P_slices_Contains_string_string Sp.slices_Contains_string_string F) := by
  intro a s γ K q h
  unfold P_slices_Contains_string_string at h
  split at h
  · exact body_ok (tab_call (tab_nil _) (E_slices_Index_string_string p (ent_none _ _))) rfl ((e_slices_Contains_string_string p _ _ _ _ _).trans h)
  · exact hF _ _ _ _ _ h
abbrev Ty_lex_Key : Type 1 := ByteArray → (γ : Type) → (Bool → Option γ) → Option γ
def P_lex_Key (X : Ty_lex_Key) (F : Ent3) : Ent3 := fun a s γ K => match a, s with
  | [AVal.dat (Dat.str v_word)], [] => X v_word γ (fun r0 => K ([(AVal.dat (Dat.bool r0), Own.none)], []))
  | a, s => F a s γ K
def T_lex_Key (x_lex_Keys : Ty_lex_Keys) (x_slices_Contains_string_string : Ty_slices_Contains_string_string) : CallK := (addK (addK noneK 75 (P_lex_Keys x_lex_Keys none3)) 74 (P_slices_Contains_string_string x_slices_Contains_string_string none3))
def L_lex_Key (x_lex_Keys : Ty_lex_Keys) (x_slices_Contains_string_string : Ty_slices_Contains_string_string) : LoopK := noneL
def Sp.B_lex_Key (x_lex_Keys : Ty_lex_Keys) (x_slices_Contains_string_string : Ty_slices_Contains_string_string) (v_word : ByteArray) (γ : Type) (K : Bool → Option γ) : Option γ := x_lex_Keys γ fun (z3 : List (List Dat)) => x_slices_Contains_string_string z3 v_word γ fun (z4 : Bool) => K z4
theorem e_lex_Key (p : Par) (x_lex_Keys : Ty_lex_Keys) (x_slices_Contains_string_string : Ty_slices_Contains_string_string) (v_word : ByteArray) (γ : Type) (K : List Ent × Sig → Option γ) : evFK (cfg p) (T_lex_Key x_lex_Keys x_slices_Contains_string_string) (L_lex_Key x_lex_Keys x_slices_Contains_string_string) 61 [AVal.dat (Dat.str v_word)] [] γ K = Sp.B_lex_Key x_lex_Keys x_slices_Contains_string_string v_word γ (fun r0 => K ([(AVal.dat (Dat.bool r0), Own.none)], [])) := by kernel_rfl
def Sp.lex_Key : Ty_lex_Key := Sp.B_lex_Key Sp.lex_Keys Sp.slices_Contains_string_string
theorem E_lex_Key (p : Par) {F : Ent3} (hF : EntOk (cfg p) 61 F) : EntOk (cfg p) 61 (P_lex_Key Sp.lex_Key F) := by
  intro a s γ K q h
  unfold P_lex_Key at h
  split at h
  · exact body_ok (tab_call (tab_call (tab_nil _) (E_lex_Keys p (ent_none _ _))) (E_slices_Contains_string_string p (ent_none _ _))) rfl ((e_lex_Key p _ _ _ _ _).trans h)
  · exact hF _ _ _ _ _ h
abbrev Ty_lex_Name : Type 1 := ByteArray → (γ : Type) → (Bool → Option γ) → Option γ
def P_lex_Name (X : Ty_lex_Name) (F : Ent3) : Ent3 := fun a s γ K => match a, s with
  | [AVal.dat (Dat.str v_s)], [] => X v_s γ (fun r0 => K ([(AVal.dat (Dat.bool r0), Own.none)], []))
  | a, s => F a s γ K
def T_lex_Name (x_lex_letter : Ty_lex_letter) (x_lex_scanner_run : Ty_lex_scanner_run) (x_lex_Key : Ty_lex_Key) : CallK := (addK (addK (addK noneK 59 (P_lex_letter x_lex_letter none3)) 60 (P_lex_scanner_run x_lex_scanner_run none3)) 61 (P_lex_Key x_lex_Key none3))
def L_lex_Name (x_lex_letter : Ty_lex_letter) (x_lex_scanner_run : Ty_lex_scanner_run) (x_lex_Key : Ty_lex_Key) : LoopK := noneL
def Sp.B_lex_Name (x_lex_letter : Ty_lex_letter) (x_lex_scanner_run : Ty_lex_scanner_run) (x_lex_Key : Ty_lex_Key) (v_s : ByteArray) (γ : Type) (K : Bool → Option γ) : Option γ := bif decide (v_s = bs []) then K false else byteAt v_s 0 fun (z3 : UInt8) => x_lex_letter (Int.ofNat (BitVec.toFin (UInt8.toBitVec z3)).1) γ fun (z4 : Bool) => bif !z4 then K false else x_lex_scanner_run v_s 0 γ fun (z5 z6 : ByteArray) (z7 : Int) => bif decide (z5 = v_s) then bif decide (Int.ofNat (ByteArray.size v_s) ≤ 24) then x_lex_Key v_s γ fun (z8 : Bool) => K !z8 else K false else K false
theorem e_lex_Name (p : Par) (x_lex_letter : Ty_lex_letter) (x_lex_scanner_run : Ty_lex_scanner_run) (x_lex_Key : Ty_lex_Key) (v_s : ByteArray) (γ : Type) (K : List Ent × Sig → Option γ) : evFK (cfg p) (T_lex_Name x_lex_letter x_lex_scanner_run x_lex_Key) (L_lex_Name x_lex_letter x_lex_scanner_run x_lex_Key) 51 [AVal.dat (Dat.str v_s)] [] γ K = Sp.B_lex_Name x_lex_letter x_lex_scanner_run x_lex_Key v_s γ (fun r0 => K ([(AVal.dat (Dat.bool r0), Own.none)], [])) := by kernel_rfl
def Sp.lex_Name : Ty_lex_Name := Sp.B_lex_Name Sp.lex_letter Sp.lex_scanner_run Sp.lex_Key
theorem E_lex_Name (p : Par) {F : Ent3} (hF : EntOk (cfg p) 51 F) : EntOk (cfg p) 51 (P_lex_Name Sp.lex_Name F) := by
  intro a s γ K q h
  unfold P_lex_Name at h
  split at h
  · exact body_ok (tab_call (tab_call (tab_call (tab_nil _) (E_lex_letter p (ent_none _ _))) (E_lex_scanner_run p (ent_none _ _))) (E_lex_Key p (ent_none _ _))) rfl ((e_lex_Name p _ _ _ _ _ _).trans h)
  · exact hF _ _ _ _ _ h
abbrev Ty_expr_column : Type 1 := Int → Int → Int → Int → ByteArray → ByteArray → ByteArray → List (List Dat) → (γ : Type) → (Bool → Option γ) → Option γ
def P_expr_column (X : Ty_expr_column) (F : Ent3) : Ent3 := fun a s γ K => match a, s with
  | [AVal.agg [(Dat.int IntKind.i64 v_e0, Own.none), (Dat.int IntKind.i64 v_e1, Own.none), (Dat.int IntKind.i64 v_e2, Own.none), (Dat.int IntKind.i64 v_e3, Own.none), (Dat.str v_e4, Own.none), (Dat.str v_e5, Own.none), (Dat.str v_e6, Own.none), (Dat.sl v_e7, Own.none)]], [] => X v_e0 v_e1 v_e2 v_e3 v_e4 v_e5 v_e6 v_e7 γ (fun r0 => K ([(AVal.dat (Dat.bool r0), Own.none)], []))
  | a, s => F a s γ K
def T_expr_column (x_lex_Name : Ty_lex_Name) : CallK := (addK noneK 51 (P_lex_Name x_lex_Name none3))
def L_expr_column (x_lex_Name : Ty_lex_Name) : LoopK := noneL
def Sp.B_expr_column (x_lex_Name : Ty_lex_Name) (v_e0 : Int) (v_e1 : Int) (v_e2 : Int) (v_e3 : Int) (v_e4 : ByteArray) (v_e5 : ByteArray) (v_e6 : ByteArray) (v_e7 : List (List Dat)) (γ : Type) (K : Bool → Option γ) : Option γ := x_lex_Name v_e6 γ fun (z10 : Bool) => bif z10 then bif decide (v_e5 = bs []) then bif decide (0 ≤ v_e1) then bif decide (v_e1 < 32) then bif decide (v_e2 = 0) && (decide (v_e3 = 0) && (decide (v_e4 = bs []) && true)) then K (decide (Int.ofNat (List.length v_e7) = 0)) else K false else K false else K false else x_lex_Name v_e5 γ fun (z11 : Bool) => bif z11 then bif decide (0 ≤ v_e1) then bif decide (v_e1 < 32) then bif decide (v_e2 = 0) && (decide (v_e3 = 0) && (decide (v_e4 = bs []) && true)) then K (decide (Int.ofNat (List.length v_e7) = 0)) else K false else K false else K false else K false else K false
theorem e_expr_column (p : Par) (x_lex_Name : Ty_lex_Name) (v_e0 : Int) (v_e1 : Int) (v_e2 : Int) (v_e3 : Int) (v_e4 : ByteArray) (v_e5 : ByteArray) (v_e6 : ByteArray) (v_e7 : List (List Dat)) (γ : Type) (K : List Ent × Sig → Option γ) : evFK (cfg p) (T_expr_column x_lex_Name) (L_expr_column x_lex_Name) 46 [AVal.agg [(Dat.int IntKind.i64 v_e0, Own.none), (Dat.int IntKind.i64 v_e1, Own.none), (Dat.int IntKind.i64 v_e2, Own.none), (Dat.int IntKind.i64 v_e3, Own.none), (Dat.str v_e4, Own.none), (Dat.str v_e5, Own.none), (Dat.str v_e6, Own.none), (Dat.sl v_e7, Own.none)]] [] γ K = Sp.B_expr_column x_lex_Name v_e0 v_e1 v_e2 v_e3 v_e4 v_e5 v_e6 v_e7 γ (fun r0 => K ([(AVal.dat (Dat.bool r0), Own.none)], [])) := by kernel_rfl
def Sp.expr_column : Ty_expr_column := Sp.B_expr_column Sp.lex_Name
theorem E_expr_column (p : Par) {F : Ent3} (hF : EntOk (cfg p) 46 F) : EntOk (cfg p) 46 (P_expr_column Sp.expr_column F) := by
  intro a s γ K q h
  unfold P_expr_column at h
  split at h
  · exact body_ok (tab_call (tab_nil _) (E_lex_Name p (ent_none _ _))) rfl ((e_expr_column p _ _ _ _ _ _ _ _ _ _ _).trans h)
  · exact hF _ _ _ _ _ h
abbrev Ty_expr_bare : Type 1 := Int → Int → Int → Int → ByteArray → ByteArray → ByteArray → List (List Dat) → (γ : Type) → (Bool → Option γ) → Option γ
def P_expr_bare (X : Ty_expr_bare) (F : Ent3) : Ent3 := fun a s γ K => match a, s with
  | [AVal.agg [(Dat.int IntKind.i64 v_e0, Own.none), (Dat.int IntKind.i64 v_e1, Own.none), (Dat.int IntKind.i64 v_e2, Own.none), (Dat.int IntKind.i64 v_e3, Own.none), (Dat.str v_e4, Own.none), (Dat.str v_e5, Own.none), (Dat.str v_e6, Own.none), (Dat.sl v_e7, Own.none)]], [] => X v_e0 v_e1 v_e2 v_e3 v_e4 v_e5 v_e6 v_e7 γ (fun r0 => K ([(AVal.dat (Dat.bool r0), Own.none)], []))
  | a, s => F a s γ K
def T_expr_bare  : CallK := noneK
def L_expr_bare  : LoopK := noneL
def Sp.B_expr_bare  (v_e0 : Int) (v_e1 : Int) (v_e2 : Int) (v_e3 : Int) (v_e4 : ByteArray) (v_e5 : ByteArray) (v_e6 : ByteArray) (v_e7 : List (List Dat)) (γ : Type) (K : Bool → Option γ) : Option γ := bif decide (v_e2 = 0) && (decide (v_e3 = 0) && (decide (v_e4 = bs []) && true)) then bif decide (v_e5 = bs []) then K (decide (v_e6 = bs [])) else K false else K false
theorem e_expr_bare (p : Par)  (v_e0 : Int) (v_e1 : Int) (v_e2 : Int) (v_e3 : Int) (v_e4 : ByteArray) (v_e5 : ByteArray) (v_e6 : ByteArray) (v_e7 : List (List Dat)) (γ : Type) (K : List Ent × Sig → Option γ) : evFK (cfg p) (T_expr_bare ) (L_expr_bare ) 47 [AVal.agg [(Dat.int IntKind.i64 v_e0, Own.none), (Dat.int IntKind.i64 v_e1, Own.none), (Dat.int IntKind.i64 v_e2, Own.none), (Dat.int IntKind.i64 v_e3, Own.none), (Dat.str v_e4, Own.none), (Dat.str v_e5, Own.none), (Dat.str v_e6, Own.none), (Dat.sl v_e7, Own.none)]] [] γ K = Sp.B_expr_bare  v_e0 v_e1 v_e2 v_e3 v_e4 v_e5 v_e6 v_e7 γ (fun r0 => K ([(AVal.dat (Dat.bool r0), Own.none)], [])) := by kernel_rfl
def Sp.expr_bare : Ty_expr_bare := Sp.B_expr_bare 
theorem E_expr_bare (p : Par) {F : Ent3} (hF : EntOk (cfg p) 47 F) : EntOk (cfg p) 47 (P_expr_bare Sp.expr_bare F) := by
  intro a s γ K q h
  unfold P_expr_bare at h
  split at h
  · exact body_ok (tab_nil _) rfl ((e_expr_bare p  _ _ _ _ _ _ _ _ _ _).trans h)
  · exact hF _ _ _ _ _ h
abbrev Ty_expr_Arity : Type 1 := Int → (γ : Type) → (Int → Option γ) → Option γ
def P_expr_Arity (X : Ty_expr_Arity) (F : Ent3) : Ent3 := fun a s γ K => match a, s with
  | [AVal.dat (Dat.int IntKind.i64 v_op)], [] => X v_op γ (fun r0 => K ([(AVal.dat (Dat.int IntKind.i64 r0), Own.none)], []))
  | a, s => F a s γ K
def T_expr_Arity  : CallK := noneK
def L_expr_Arity  : LoopK := noneL
def Sp.B_expr_Arity  (v_op : Int) (γ : Type) (K : Int → Option γ) : Option γ := bif decide (v_op = 3) then K 1 else bif decide (15 ≤ v_op) then bif decide (v_op ≤ 17) then K 1 else bif decide (1 ≤ v_op) then bif decide (v_op < 15) then K 2 else K 0 else K 0 else bif decide (1 ≤ v_op) then bif decide (v_op < 15) then K 2 else K 0 else K 0
theorem e_expr_Arity (p : Par)  (v_op : Int) (γ : Type) (K : List Ent × Sig → Option γ) : evFK (cfg p) (T_expr_Arity ) (L_expr_Arity ) 15 [AVal.dat (Dat.int IntKind.i64 v_op)] [] γ K = Sp.B_expr_Arity  v_op γ (fun r0 => K ([(AVal.dat (Dat.int IntKind.i64 r0), Own.none)], [])) := by kernel_rfl
def Sp.expr_Arity : Ty_expr_Arity := Sp.B_expr_Arity 
theorem E_expr_Arity (p : Par) {F : Ent3} (hF : EntOk (cfg p) 15 F) : EntOk (cfg p) 15 (P_expr_Arity Sp.expr_Arity F) := by
  intro a s γ K q h
  unfold P_expr_Arity at h
  split at h
  · exact body_ok (tab_nil _) rfl ((e_expr_Arity p  _ _ _).trans h)
  · exact hF _ _ _ _ _ h
abbrev Ty_expr_agg : Type 1 := Int → Int → Int → Int → ByteArray → ByteArray → ByteArray → List (List Dat) → (γ : Type) → (Bool → Option γ) → Option γ
def P_expr_agg (X : Ty_expr_agg) (F : Ent3) : Ent3 := fun a s γ K => match a, s with
  | [AVal.agg [(Dat.int IntKind.i64 v_e0, Own.none), (Dat.int IntKind.i64 v_e1, Own.none), (Dat.int IntKind.i64 v_e2, Own.none), (Dat.int IntKind.i64 v_e3, Own.none), (Dat.str v_e4, Own.none), (Dat.str v_e5, Own.none), (Dat.str v_e6, Own.none), (Dat.sl v_e7, Own.none)]], [] => X v_e0 v_e1 v_e2 v_e3 v_e4 v_e5 v_e6 v_e7 γ (fun r0 => K ([(AVal.dat (Dat.bool r0), Own.none)], []))
  | a, s => F a s γ K
def T_expr_agg (x_expr_bare : Ty_expr_bare) : CallK := (addK noneK 47 (P_expr_bare x_expr_bare none3))
def L_expr_agg (x_expr_bare : Ty_expr_bare) : LoopK := noneL
def Sp.B_expr_agg (x_expr_bare : Ty_expr_bare) (v_e0 : Int) (v_e1 : Int) (v_e2 : Int) (v_e3 : Int) (v_e4 : ByteArray) (v_e5 : ByteArray) (v_e6 : ByteArray) (v_e7 : List (List Dat)) (γ : Type) (K : Bool → Option γ) : Option γ := bif decide (v_e1 = 1) then x_expr_bare v_e0 v_e1 v_e2 v_e3 v_e4 v_e5 v_e6 v_e7 γ fun (z10 : Bool) => bif z10 then bif decide (1 ≤ v_e1) then bif decide (v_e1 ≤ 5) then K (decide (Int.ofNat (List.length v_e7) = 0)) else K false else K false else K false else x_expr_bare v_e0 v_e1 v_e2 v_e3 v_e4 v_e5 v_e6 v_e7 γ fun (z11 : Bool) => bif z11 then bif decide (1 ≤ v_e1) then bif decide (v_e1 ≤ 5) then K (decide (Int.ofNat (List.length v_e7) = 1)) else K false else K false else K false
theorem e_expr_agg (p : Par) (x_expr_bare : Ty_expr_bare) (v_e0 : Int) (v_e1 : Int) (v_e2 : Int) (v_e3 : Int) (v_e4 : ByteArray) (v_e5 : ByteArray) (v_e6 : ByteArray) (v_e7 : List (List Dat)) (γ : Type) (K : List Ent × Sig → Option γ) : evFK (cfg p) (T_expr_agg x_expr_bare) (L_expr_agg x_expr_bare) 48 [AVal.agg [(Dat.int IntKind.i64 v_e0, Own.none), (Dat.int IntKind.i64 v_e1, Own.none), (Dat.int IntKind.i64 v_e2, Own.none), (Dat.int IntKind.i64 v_e3, Own.none), (Dat.str v_e4, Own.none), (Dat.str v_e5, Own.none), (Dat.str v_e6, Own.none), (Dat.sl v_e7, Own.none)]] [] γ K = Sp.B_expr_agg x_expr_bare v_e0 v_e1 v_e2 v_e3 v_e4 v_e5 v_e6 v_e7 γ (fun r0 => K ([(AVal.dat (Dat.bool r0), Own.none)], [])) := by kernel_rfl
def Sp.expr_agg : Ty_expr_agg := Sp.B_expr_agg Sp.expr_bare
theorem E_expr_agg (p : Par) {F : Ent3} (hF : EntOk (cfg p) 48 F) : EntOk (cfg p) 48 (P_expr_agg Sp.expr_agg F) := by
  intro a s γ K q h
  unfold P_expr_agg at h
  split at h
  · exact body_ok (tab_call (tab_nil _) (E_expr_bare p (ent_none _ _))) rfl ((e_expr_agg p _ _ _ _ _ _ _ _ _ _ _).trans h)
  · exact hF _ _ _ _ _ h
abbrev Ty_expr_may : Type 1 := Int → Int → Int → Int → ByteArray → ByteArray → ByteArray → List (List Dat) → (γ : Type) → (Bool → Option γ) → Option γ
def P_expr_may (X : Ty_expr_may) (F : Ent3) : Ent3 := fun a s γ K => match a, s with
  | [AVal.agg [(Dat.int IntKind.i64 v_e0, Own.none), (Dat.int IntKind.i64 v_e1, Own.none), (Dat.int IntKind.i64 v_e2, Own.none), (Dat.int IntKind.i64 v_e3, Own.none), (Dat.str v_e4, Own.none), (Dat.str v_e5, Own.none), (Dat.str v_e6, Own.none), (Dat.sl v_e7, Own.none)]], [] => X v_e0 v_e1 v_e2 v_e3 v_e4 v_e5 v_e6 v_e7 γ (fun r0 => K ([(AVal.dat (Dat.bool r0), Own.none)], []))
  | a, s => F a s γ K
def T_expr_may (x_expr_literal : Ty_expr_literal) (x_expr_column : Ty_expr_column) (x_expr_bare : Ty_expr_bare) (x_expr_Arity : Ty_expr_Arity) (x_expr_agg : Ty_expr_agg) : CallK := (addK (addK (addK (addK (addK noneK 45 (P_expr_literal x_expr_literal none3)) 46 (P_expr_column x_expr_column none3)) 47 (P_expr_bare x_expr_bare none3)) 15 (P_expr_Arity x_expr_Arity none3)) 48 (P_expr_agg x_expr_agg none3))
def L_expr_may (x_expr_literal : Ty_expr_literal) (x_expr_column : Ty_expr_column) (x_expr_bare : Ty_expr_bare) (x_expr_Arity : Ty_expr_Arity) (x_expr_agg : Ty_expr_agg) : LoopK := noneL
def Sp.B_expr_may (x_expr_literal : Ty_expr_literal) (x_expr_column : Ty_expr_column) (x_expr_bare : Ty_expr_bare) (x_expr_Arity : Ty_expr_Arity) (x_expr_agg : Ty_expr_agg) (v_e0 : Int) (v_e1 : Int) (v_e2 : Int) (v_e3 : Int) (v_e4 : ByteArray) (v_e5 : ByteArray) (v_e6 : ByteArray) (v_e7 : List (List Dat)) (γ : Type) (K : Bool → Option γ) : Option γ := bif decide (v_e0 = 1) then x_expr_literal v_e0 v_e1 v_e2 v_e3 v_e4 v_e5 v_e6 v_e7 γ fun (z10 : Bool) => K z10 else bif decide (v_e0 = 2) then x_expr_column v_e0 v_e1 v_e2 v_e3 v_e4 v_e5 v_e6 v_e7 γ fun (z11 : Bool) => K z11 else bif decide (v_e0 = 3) then x_expr_bare v_e0 v_e1 v_e2 v_e3 v_e4 v_e5 v_e6 v_e7 γ fun (z12 : Bool) => bif z12 then x_expr_Arity v_e1 γ fun (z13 : Int) => bif decide (0 < z13) then x_expr_Arity v_e1 γ fun (z14 : Int) => K (decide (Int.ofNat (List.length v_e7) = z14)) else K false else K false else bif decide (v_e0 = 4) then x_expr_agg v_e0 v_e1 v_e2 v_e3 v_e4 v_e5 v_e6 v_e7 γ fun (z15 : Bool) => K z15 else K false
theorem e_expr_may (p : Par) (x_expr_literal : Ty_expr_literal) (x_expr_column : Ty_expr_column) (x_expr_bare : Ty_expr_bare) (x_expr_Arity : Ty_expr_Arity) (x_expr_agg : Ty_expr_agg) (v_e0 : Int) (v_e1 : Int) (v_e2 : Int) (v_e3 : Int) (v_e4 : ByteArray) (v_e5 : ByteArray) (v_e6 : ByteArray) (v_e7 : List (List Dat)) (γ : Type) (K : List Ent × Sig → Option γ) : evFK (cfg p) (T_expr_may x_expr_literal x_expr_column x_expr_bare x_expr_Arity x_expr_agg) (L_expr_may x_expr_literal x_expr_column x_expr_bare x_expr_Arity x_expr_agg) 41 [AVal.agg [(Dat.int IntKind.i64 v_e0, Own.none), (Dat.int IntKind.i64 v_e1, Own.none), (Dat.int IntKind.i64 v_e2, Own.none), (Dat.int IntKind.i64 v_e3, Own.none), (Dat.str v_e4, Own.none), (Dat.str v_e5, Own.none), (Dat.str v_e6, Own.none), (Dat.sl v_e7, Own.none)]] [] γ K = Sp.B_expr_may x_expr_literal x_expr_column x_expr_bare x_expr_Arity x_expr_agg v_e0 v_e1 v_e2 v_e3 v_e4 v_e5 v_e6 v_e7 γ (fun r0 => K ([(AVal.dat (Dat.bool r0), Own.none)], [])) := by kernel_rfl
def Sp.expr_may : Ty_expr_may := Sp.B_expr_may Sp.expr_literal Sp.expr_column Sp.expr_bare Sp.expr_Arity Sp.expr_agg
theorem E_expr_may (p : Par) {F : Ent3} (hF : EntOk (cfg p) 41 F) : EntOk (cfg p) 41 (P_expr_may Sp.expr_may F) := by
  intro a s γ K q h
  unfold P_expr_may at h
  split at h
  · exact body_ok (tab_call (tab_call (tab_call (tab_call (tab_call (tab_nil _) (E_expr_literal p (ent_none _ _))) (E_expr_column p (ent_none _ _))) (E_expr_bare p (ent_none _ _))) (E_expr_Arity p (ent_none _ _))) (E_expr_agg p (ent_none _ _))) rfl ((e_expr_may p _ _ _ _ _ _ _ _ _ _ _ _ _ _ _).trans h)
  · exact hF _ _ _ _ _ h
abbrev Ty_expr_scan_look : Type 1 := Int → Int → Int → Int → ByteArray → ByteArray → ByteArray → List (List Dat) → Int → Int → Int → Int → Bool → (γ : Type) → (Int → Int → Bool → Option γ) → Option γ
def P_expr_scan_look (X : Ty_expr_scan_look) (F : Ent3) : Ent3 := fun a s γ K => match a, s with
  | [AVal.ref 0 0, AVal.agg [(Dat.int IntKind.i64 v_e0, Own.none), (Dat.int IntKind.i64 v_e1, Own.none), (Dat.int IntKind.i64 v_e2, Own.none), (Dat.int IntKind.i64 v_e3, Own.none), (Dat.str v_e4, Own.none), (Dat.str v_e5, Own.none), (Dat.str v_e6, Own.none), (Dat.sl v_e7, Own.none)], AVal.dat (Dat.int IntKind.i64 v_deep), AVal.dat (Dat.int IntKind.i64 v_aggs)], [Box.cells [AVal.dat (Dat.int IntKind.i64 b0), AVal.dat (Dat.int IntKind.i64 b1), AVal.dat (Dat.bool b2)]] => X v_e0 v_e1 v_e2 v_e3 v_e4 v_e5 v_e6 v_e7 v_deep v_aggs b0 b1 b2 γ (fun r0 r1 r2 => K ([], [Box.cells [AVal.dat (Dat.int IntKind.i64 r0), AVal.dat (Dat.int IntKind.i64 r1), AVal.dat (Dat.bool r2)]]))
  | a, s => F a s γ K
abbrev Ty_expr_scan_look_L0 : Type 1 := Int → Int → List (List Dat) → Int → Int → Int → Int → Bool → (γ : Type) → (Ex → Int → Int → Int → Bool → Option γ) → Option γ
def P_expr_scan_look_L0 (X : Ty_expr_scan_look_L0) (F : Loop3) : Loop3 := fun a s γ K => match a, s with
  | [AVal.ref 0 0, AVal.dat (Dat.int IntKind.i64 v_deep), AVal.dat (Dat.int IntKind.i64 v_aggs), AVal.dat (Dat.sl v_), AVal.dat (Dat.int IntKind.i64 v__1)], ([AVal.dat (Dat.int IntKind.i64 v__2)], [Box.cells [AVal.dat (Dat.int IntKind.i64 b0), AVal.dat (Dat.int IntKind.i64 b1), AVal.dat (Dat.bool b2)]]) => X v_deep v_aggs v_ v__1 v__2 b0 b1 b2 γ (fun e x0 x1 x2 x3 => K (e, ([AVal.dat (Dat.int IntKind.i64 x0)], [Box.cells [AVal.dat (Dat.int IntKind.i64 x1), AVal.dat (Dat.int IntKind.i64 x2), AVal.dat (Dat.bool x3)]])))
  | a, s => F a s γ K
def T_expr_scan_look_L0 (x_expr_scan_look : Ty_expr_scan_look) : CallK := (addK noneK 36 (P_expr_scan_look x_expr_scan_look none3))
def L_expr_scan_look_L0 (x_expr_scan_look : Ty_expr_scan_look) : LoopK := noneL
def Sp.B_expr_scan_look_L0 (x_expr_scan_look_L0 : Ty_expr_scan_look_L0) (x_expr_scan_look : Ty_expr_scan_look) (v_deep : Int) (v_aggs : Int) (v_ : List (List Dat)) (v__1 : Int) (v__2 : Int) (b0 : Int) (b1 : Int) (b2 : Bool) (γ : Type) (K : Ex → Int → Int → Int → Bool → Option γ) : Option γ := bif decide (v__2 < v__1) then elemAt v_ v__2 fun (z10 : List Dat) => bif List.length z10 == 8 then cellAt z10 0 fun (z11 : Dat) => Aev.asInt IntKind.i64 z11 fun (z12 : Int) => cellAt z10 1 fun (z13 : Dat) => Aev.asInt IntKind.i64 z13 fun (z14 : Int) => cellAt z10 2 fun (z15 : Dat) => Aev.asInt IntKind.i64 z15 fun (z16 : Int) => cellAt z10 3 fun (z17 : Dat) => Aev.asInt IntKind.i64 z17 fun (z18 : Int) => cellAt z10 4 fun (z19 : Dat) => asStr z19 fun (z20 : ByteArray) => cellAt z10 5 fun (z21 : Dat) => asStr z21 fun (z22 : ByteArray) => cellAt z10 6 fun (z23 : Dat) => asStr z23 fun (z24 : ByteArray) => cellAt z10 7 fun (z25 : Dat) => asSl z25 fun (z26 : List (List Dat)) => bif b2 then K Ex.ret v__2 b0 b1 b2 else x_expr_scan_look z12 z14 z16 z18 z20 z22 z24 z26 (IntKind.wrap IntKind.i64 (v_deep + 1)) v_aggs b0 b1 b2 γ fun (z27 z28 : Int) (z29 : Bool) => x_expr_scan_look_L0 v_deep v_aggs v_ v__1 (IntKind.wrap IntKind.i64 (v__2 + 1)) z27 z28 z29 γ K else none else K (Ex.exit 0) v__2 b0 b1 b2
theorem e_expr_scan_look_L0 (p : Par) (x_expr_scan_look_L0 : Ty_expr_scan_look_L0) (x_expr_scan_look : Ty_expr_scan_look) (v_deep : Int) (v_aggs : Int) (v_ : List (List Dat)) (v__1 : Int) (v__2 : Int) (b0 : Int) (b1 : Int) (b2 : Bool) (γ : Type) (K : Ex × Vars → Option γ) : roundK (cfg p) (T_expr_scan_look_L0 x_expr_scan_look) (L_expr_scan_look_L0 x_expr_scan_look) 36 0 [AVal.ref 0 0, AVal.dat (Dat.int IntKind.i64 v_deep), AVal.dat (Dat.int IntKind.i64 v_aggs), AVal.dat (Dat.sl v_), AVal.dat (Dat.int IntKind.i64 v__1)] ([AVal.dat (Dat.int IntKind.i64 v__2)], [Box.cells [AVal.dat (Dat.int IntKind.i64 b0), AVal.dat (Dat.int IntKind.i64 b1), AVal.dat (Dat.bool b2)]]) γ (contL (fun v => P_expr_scan_look_L0 x_expr_scan_look_L0 noneL3 [AVal.ref 0 0, AVal.dat (Dat.int IntKind.i64 v_deep), AVal.dat (Dat.int IntKind.i64 v_aggs), AVal.dat (Dat.sl v_), AVal.dat (Dat.int IntKind.i64 v__1)] v γ K) K) = Sp.B_expr_scan_look_L0 x_expr_scan_look_L0 x_expr_scan_look v_deep v_aggs v_ v__1 v__2 b0 b1 b2 γ (fun e x0 x1 x2 x3 => K (e, ([AVal.dat (Dat.int IntKind.i64 x0)], [Box.cells [AVal.dat (Dat.int IntKind.i64 x1), AVal.dat (Dat.int IntKind.i64 x2), AVal.dat (Dat.bool x3)]]))) := by kernel_rfl
def T_expr_scan_look (x_expr_scan_look_L0 : Ty_expr_scan_look_L0) (x_expr_may : Ty_expr_may) : CallK := (addK noneK 41 (P_expr_may x_expr_may none3))
def L_expr_scan_look (x_expr_scan_look_L0 : Ty_expr_scan_look_L0) (x_expr_may : Ty_expr_may) : LoopK := (addL noneL 36 0 (P_expr_scan_look_L0 x_expr_scan_look_L0 noneL3))
def Sp.B_expr_scan_look (x_expr_scan_look_L0 : Ty_expr_scan_look_L0) (x_expr_may : Ty_expr_may) (v_e0 : Int) (v_e1 : Int) (v_e2 : Int) (v_e3 : Int) (v_e4 : ByteArray) (v_e5 : ByteArray) (v_e6 : ByteArray) (v_e7 : List (List Dat)) (v_deep : Int) (v_aggs : Int) (b0 : Int) (b1 : Int) (b2 : Bool) (γ : Type) (K : Int → Int → Bool → Option γ) : Option γ := bif decide (v_e0 = 4) then bif b2 then x_expr_scan_look_L0 v_deep (IntKind.wrap IntKind.i64 (v_aggs + 1)) v_e7 (Int.ofNat (List.length v_e7)) 0 (IntKind.wrap IntKind.i64 (b0 + 1)) (max b1 v_deep) true γ fun (z15 : Ex) (z16 z17 z18 : Int) (z19 : Bool) => bif Ex.isExit z15 0 then K z17 z18 z19 else bif Ex.isRet z15 then K z17 z18 z19 else none else x_expr_may v_e0 v_e1 v_e2 v_e3 v_e4 v_e5 v_e6 v_e7 γ fun (z20 : Bool) => bif !z20 then x_expr_scan_look_L0 v_deep (IntKind.wrap IntKind.i64 (v_aggs + 1)) v_e7 (Int.ofNat (List.length v_e7)) 0 (IntKind.wrap IntKind.i64 (b0 + 1)) (max b1 v_deep) true γ fun (z21 : Ex) (z22 z23 z24 : Int) (z25 : Bool) => bif Ex.isExit z21 0 then K z23 z24 z25 else bif Ex.isRet z21 then K z23 z24 z25 else none else bif decide (1 < IntKind.wrap IntKind.i64 (v_aggs + 1)) then x_expr_scan_look_L0 v_deep (IntKind.wrap IntKind.i64 (v_aggs + 1)) v_e7 (Int.ofNat (List.length v_e7)) 0 (IntKind.wrap IntKind.i64 (b0 + 1)) (max b1 v_deep) true γ fun (z26 : Ex) (z27 z28 z29 : Int) (z30 : Bool) => bif Ex.isExit z26 0 then K z28 z29 z30 else bif Ex.isRet z26 then K z28 z29 z30 else none else bif decide (512 < IntKind.wrap IntKind.i64 (b0 + 1)) then x_expr_scan_look_L0 v_deep (IntKind.wrap IntKind.i64 (v_aggs + 1)) v_e7 (Int.ofNat (List.length v_e7)) 0 (IntKind.wrap IntKind.i64 (b0 + 1)) (max b1 v_deep) true γ fun (z31 : Ex) (z32 z33 z34 : Int) (z35 : Bool) => bif Ex.isExit z31 0 then K z33 z34 z35 else bif Ex.isRet z31 then K z33 z34 z35 else none else x_expr_scan_look_L0 v_deep (IntKind.wrap IntKind.i64 (v_aggs + 1)) v_e7 (Int.ofNat (List.length v_e7)) 0 (IntKind.wrap IntKind.i64 (b0 + 1)) (max b1 v_deep) (decide (32 < v_deep)) γ fun (z36 : Ex) (z37 z38 z39 : Int) (z40 : Bool) => bif Ex.isExit z36 0 then K z38 z39 z40 else bif Ex.isRet z36 then K z38 z39 z40 else none else bif b2 then x_expr_scan_look_L0 v_deep v_aggs v_e7 (Int.ofNat (List.length v_e7)) 0 (IntKind.wrap IntKind.i64 (b0 + 1)) (max b1 v_deep) true γ fun (z41 : Ex) (z42 z43 z44 : Int) (z45 : Bool) => bif Ex.isExit z41 0 then K z43 z44 z45 else bif Ex.isRet z41 then K z43 z44 z45 else none else x_expr_may v_e0 v_e1 v_e2 v_e3 v_e4 v_e5 v_e6 v_e7 γ fun (z46 : Bool) => bif !z46 then x_expr_scan_look_L0 v_deep v_aggs v_e7 (Int.ofNat (List.length v_e7)) 0 (IntKind.wrap IntKind.i64 (b0 + 1)) (max b1 v_deep) true γ fun (z47 : Ex) (z48 z49 z50 : Int) (z51 : Bool) => bif Ex.isExit z47 0 then K z49 z50 z51 else bif Ex.isRet z47 then K z49 z50 z51 else none else bif decide (1 < v_aggs) then x_expr_scan_look_L0 v_deep v_aggs v_e7 (Int.ofNat (List.length v_e7)) 0 (IntKind.wrap IntKind.i64 (b0 + 1)) (max b1 v_deep) true γ fun (z52 : Ex) (z53 z54 z55 : Int) (z56 : Bool) => bif Ex.isExit z52 0 then K z54 z55 z56 else bif Ex.isRet z52 then K z54 z55 z56 else none else bif decide (512 < IntKind.wrap IntKind.i64 (b0 + 1)) then x_expr_scan_look_L0 v_deep v_aggs v_e7 (Int.ofNat (List.length v_e7)) 0 (IntKind.wrap IntKind.i64 (b0 + 1)) (max b1 v_deep) true γ fun (z57 : Ex) (z58 z59 z60 : Int) (z61 : Bool) => bif Ex.isExit z57 0 then K z59 z60 z61 else bif Ex.isRet z57 then K z59 z60 z61 else none else x_expr_scan_look_L0 v_deep v_aggs v_e7 (Int.ofNat (List.length v_e7)) 0 (IntKind.wrap IntKind.i64 (b0 + 1)) (max b1 v_deep) (decide (32 < v_deep)) γ fun (z62 : Ex) (z63 z64 z65 : Int) (z66 : Bool) => bif Ex.isExit z62 0 then K z64 z65 z66 else bif Ex.isRet z62 then K z64 z65 z66 else none
theorem e_expr_scan_look (p : Par) (x_expr_scan_look_L0 : Ty_expr_scan_look_L0) (x_expr_may : Ty_expr_may) (v_e0 : Int) (v_e1 : Int) (v_e2 : Int) (v_e3 : Int) (v_e4 : ByteArray) (v_e5 : ByteArray) (v_e6 : ByteArray) (v_e7 : List (List Dat)) (v_deep : Int) (v_aggs : Int) (b0 : Int) (b1 : Int) (b2 : Bool) (γ : Type) (K : List Ent × Sig → Option γ) : evFK (cfg p) (T_expr_scan_look x_expr_scan_look_L0 x_expr_may) (L_expr_scan_look x_expr_scan_look_L0 x_expr_may) 36 [AVal.ref 0 0, AVal.agg [(Dat.int IntKind.i64 v_e0, Own.none), (Dat.int IntKind.i64 v_e1, Own.none), (Dat.int IntKind.i64 v_e2, Own.none), (Dat.int IntKind.i64 v_e3, Own.none), (Dat.str v_e4, Own.none), (Dat.str v_e5, Own.none), (Dat.str v_e6, Own.none), (Dat.sl v_e7, Own.none)], AVal.dat (Dat.int IntKind.i64 v_deep), AVal.dat (Dat.int IntKind.i64 v_aggs)] [Box.cells [AVal.dat (Dat.int IntKind.i64 b0), AVal.dat (Dat.int IntKind.i64 b1), AVal.dat (Dat.bool b2)]] γ K = Sp.B_expr_scan_look x_expr_scan_look_L0 x_expr_may v_e0 v_e1 v_e2 v_e3 v_e4 v_e5 v_e6 v_e7 v_deep v_aggs b0 b1 b2 γ (fun r0 r1 r2 => K ([], [Box.cells [AVal.dat (Dat.int IntKind.i64 r0), AVal.dat (Dat.int IntKind.i64 r1), AVal.dat (Dat.bool r2)]])) := by kernel_rfl
def Sp.expr_scan_look_L0 (R_expr_scan_look : Ty_expr_scan_look) : Nat → Ty_expr_scan_look_L0
  | 0 => fun _ _ _ _ _ _ _ _ _ _ => none
  | n + 1 => Sp.B_expr_scan_look_L0 (Sp.expr_scan_look_L0 R_expr_scan_look n) R_expr_scan_look
theorem E0_expr_scan_look_L0 (p : Par) (R_expr_scan_look : Ty_expr_scan_look) (h_expr_scan_look : ∀ {F : Ent3}, EntOk (cfg p) 36 F → EntOk (cfg p) 36 (P_expr_scan_look R_expr_scan_look F)) : ∀ n, EntOkL (cfg p) 36 0 (P_expr_scan_look_L0 (Sp.expr_scan_look_L0 R_expr_scan_look n) noneL3) := entL_rounds (tab_call (tab_nil _) (h_expr_scan_look (ent_none _ _))) (by kernel_rfl) (fun c v γ K => by unfold P_expr_scan_look_L0; split <;> rfl) fun n c v γ K q h => by
  unfold P_expr_scan_look_L0 at h
  split at h
  · exact (e_expr_scan_look_L0 p _ _ _ _ _ _ _ _ _ _ _ _).trans h
  · cases h
theorem E_expr_scan_look_L0 (p : Par) (R_expr_scan_look : Ty_expr_scan_look) (h_expr_scan_look : ∀ {F : Ent3}, EntOk (cfg p) 36 F → EntOk (cfg p) 36 (P_expr_scan_look R_expr_scan_look F)) (n : Nat) {F : Loop3} (hF : EntOkL (cfg p) 36 0 F) : EntOkL (cfg p) 36 0 (P_expr_scan_look_L0 (Sp.expr_scan_look_L0 R_expr_scan_look n) F) := by
  intro c v γ K q h
  unfold P_expr_scan_look_L0 at h
  split at h
  · exact E0_expr_scan_look_L0 p R_expr_scan_look h_expr_scan_look n _ _ _ _ _ h
  · exact hF _ _ _ _ _ h
def Sp.expr_scan_look : Nat → Ty_expr_scan_look
  | 0 => fun _ _ _ _ _ _ _ _ _ _ _ _ _ _ _ => none
  | n + 1 => Sp.B_expr_scan_look (Sp.expr_scan_look_L0 (Sp.expr_scan_look n) fuel) Sp.expr_may
theorem G13_ok (p : Par) (n : Nat) : (∀ {F : Ent3}, EntOk (cfg p) 36 F → EntOk (cfg p) 36 (P_expr_scan_look (Sp.expr_scan_look n) F)) := by
  induction n with
  | zero =>
    refine ?_
    · intro F hF a s γ K q h
      unfold P_expr_scan_look at h
      split at h
      · cases h
      · exact hF _ _ _ _ _ h
  | succ n ih =>
    refine ?_
    · intro F hF a s γ K q h
      unfold P_expr_scan_look at h
      split at h
      · exact body_ok (tab_loop (tab_call (tab_nil _) (E_expr_may p (ent_none _ _))) (E_expr_scan_look_L0 p (Sp.expr_scan_look n) ih fuel (entL_none _ _ _))) rfl ((e_expr_scan_look p _ _ _ _ _ _ _ _ _ _ _ _ _ _ _ _ _).trans h)
      · exact hF _ _ _ _ _ h
theorem E_expr_scan_look (p : Par) (n : Nat) {F : Ent3} (hF : EntOk (cfg p) 36 F) : EntOk (cfg p) 36 (P_expr_scan_look (Sp.expr_scan_look n) F) := (G13_ok p n) hF
abbrev Ty_expr_scanned : Type 1 := Int → Int → Int → Int → ByteArray → ByteArray → ByteArray → List (List Dat) → (γ : Type) → (Int → Int → Bool → Option γ) → Option γ
def P_expr_scanned (X : Ty_expr_scanned) (F : Ent3) : Ent3 := fun a s γ K => match a, s with
  | [AVal.agg [(Dat.int IntKind.i64 v_e0, Own.none), (Dat.int IntKind.i64 v_e1, Own.none), (Dat.int IntKind.i64 v_e2, Own.none), (Dat.int IntKind.i64 v_e3, Own.none), (Dat.str v_e4, Own.none), (Dat.str v_e5, Own.none), (Dat.str v_e6, Own.none), (Dat.sl v_e7, Own.none)]], [] => X v_e0 v_e1 v_e2 v_e3 v_e4 v_e5 v_e6 v_e7 γ (fun r0 r1 r2 => K ([(AVal.agg [(Dat.int IntKind.i64 r0, Own.none), (Dat.int IntKind.i64 r1, Own.none), (Dat.bool r2, Own.none)], Own.none)], []))
  | a, s => F a s γ K
def T_expr_scanned (x_expr_scan_look : Ty_expr_scan_look) : CallK := (addK noneK 36 (P_expr_scan_look x_expr_scan_look none3))
def L_expr_scanned (x_expr_scan_look : Ty_expr_scan_look) : LoopK := noneL
def Sp.B_expr_scanned (x_expr_scan_look : Ty_expr_scan_look) (v_e0 : Int) (v_e1 : Int) (v_e2 : Int) (v_e3 : Int) (v_e4 : ByteArray) (v_e5 : ByteArray) (v_e6 : ByteArray) (v_e7 : List (List Dat)) (γ : Type) (K : Int → Int → Bool → Option γ) : Option γ := x_expr_scan_look v_e0 v_e1 v_e2 v_e3 v_e4 v_e5 v_e6 v_e7 1 0 0 0 false γ fun (z10 z11 : Int) (z12 : Bool) => bif z12 then K 0 0 true else K z10 z11 z12
theorem e_expr_scanned (p : Par) (x_expr_scan_look : Ty_expr_scan_look) (v_e0 : Int) (v_e1 : Int) (v_e2 : Int) (v_e3 : Int) (v_e4 : ByteArray) (v_e5 : ByteArray) (v_e6 : ByteArray) (v_e7 : List (List Dat)) (γ : Type) (K : List Ent × Sig → Option γ) : evFK (cfg p) (T_expr_scanned x_expr_scan_look) (L_expr_scanned x_expr_scan_look) 30 [AVal.agg [(Dat.int IntKind.i64 v_e0, Own.none), (Dat.int IntKind.i64 v_e1, Own.none), (Dat.int IntKind.i64 v_e2, Own.none), (Dat.int IntKind.i64 v_e3, Own.none), (Dat.str v_e4, Own.none), (Dat.str v_e5, Own.none), (Dat.str v_e6, Own.none), (Dat.sl v_e7, Own.none)]] [] γ K = Sp.B_expr_scanned x_expr_scan_look v_e0 v_e1 v_e2 v_e3 v_e4 v_e5 v_e6 v_e7 γ (fun r0 r1 r2 => K ([(AVal.agg [(Dat.int IntKind.i64 r0, Own.none), (Dat.int IntKind.i64 r1, Own.none), (Dat.bool r2, Own.none)], Own.none)], [])) := by kernel_rfl
def Sp.expr_scanned : Ty_expr_scanned := Sp.B_expr_scanned (Sp.expr_scan_look fuel)
theorem E_expr_scanned (p : Par) {F : Ent3} (hF : EntOk (cfg p) 30 F) : EntOk (cfg p) 30 (P_expr_scanned Sp.expr_scanned F) := by
  intro a s γ K q h
  unfold P_expr_scanned at h
  split at h
  · exact body_ok (tab_call (tab_nil _) (E_expr_scan_look p fuel (ent_none _ _))) rfl ((e_expr_scanned p _ _ _ _ _ _ _ _ _ _ _).trans h)
  · exact hF _ _ _ _ _ h
abbrev Ty_expr_Check : Type 1 := Int → Int → Int → Int → ByteArray → ByteArray → ByteArray → List (List Dat) → (γ : Type) → (Int → Option γ) → Option γ
def P_expr_Check (X : Ty_expr_Check) (F : Ent3) : Ent3 := fun a s γ K => match a, s with
  | [AVal.agg [(Dat.int IntKind.i64 v_e0, Own.none), (Dat.int IntKind.i64 v_e1, Own.none), (Dat.int IntKind.i64 v_e2, Own.none), (Dat.int IntKind.i64 v_e3, Own.none), (Dat.str v_e4, Own.none), (Dat.str v_e5, Own.none), (Dat.str v_e6, Own.none), (Dat.sl v_e7, Own.none)]], [] => X v_e0 v_e1 v_e2 v_e3 v_e4 v_e5 v_e6 v_e7 γ (fun r0 => K ([(AVal.dat (Dat.int IntKind.i64 r0), Own.none)], []))
  | a, s => F a s γ K
def T_expr_Check (x_expr_scanned : Ty_expr_scanned) : CallK := (addK noneK 30 (P_expr_scanned x_expr_scanned none3))
def L_expr_Check (x_expr_scanned : Ty_expr_scanned) : LoopK := noneL
def Sp.B_expr_Check (x_expr_scanned : Ty_expr_scanned) (v_e0 : Int) (v_e1 : Int) (v_e2 : Int) (v_e3 : Int) (v_e4 : ByteArray) (v_e5 : ByteArray) (v_e6 : ByteArray) (v_e7 : List (List Dat)) (γ : Type) (K : Int → Option γ) : Option γ := x_expr_scanned v_e0 v_e1 v_e2 v_e3 v_e4 v_e5 v_e6 v_e7 γ fun (z10 z11 : Int) (z12 : Bool) => bif z12 then K 100 else K 0
theorem e_expr_Check (p : Par) (x_expr_scanned : Ty_expr_scanned) (v_e0 : Int) (v_e1 : Int) (v_e2 : Int) (v_e3 : Int) (v_e4 : ByteArray) (v_e5 : ByteArray) (v_e6 : ByteArray) (v_e7 : List (List Dat)) (γ : Type) (K : List Ent × Sig → Option γ) : evFK (cfg p) (T_expr_Check x_expr_scanned) (L_expr_Check x_expr_scanned) 19 [AVal.agg [(Dat.int IntKind.i64 v_e0, Own.none), (Dat.int IntKind.i64 v_e1, Own.none), (Dat.int IntKind.i64 v_e2, Own.none), (Dat.int IntKind.i64 v_e3, Own.none), (Dat.str v_e4, Own.none), (Dat.str v_e5, Own.none), (Dat.str v_e6, Own.none), (Dat.sl v_e7, Own.none)]] [] γ K = Sp.B_expr_Check x_expr_scanned v_e0 v_e1 v_e2 v_e3 v_e4 v_e5 v_e6 v_e7 γ (fun r0 => K ([(AVal.dat (Dat.int IntKind.i64 r0), Own.none)], [])) := by kernel_rfl
def Sp.expr_Check : Ty_expr_Check := Sp.B_expr_Check Sp.expr_scanned
theorem E_expr_Check (p : Par) {F : Ent3} (hF : EntOk (cfg p) 19 F) : EntOk (cfg p) 19 (P_expr_Check Sp.expr_Check F) := by
  intro a s γ K q h
  unfold P_expr_Check at h
  split at h
  · exact body_ok (tab_call (tab_nil _) (E_expr_scanned p (ent_none _ _))) rfl ((e_expr_Check p _ _ _ _ _ _ _ _ _ _ _).trans h)
  · exact hF _ _ _ _ _ h
abbrev Ty_expr_Size : Type 1 := Int → Int → Int → Int → ByteArray → ByteArray → ByteArray → List (List Dat) → (γ : Type) → (Int → Option γ) → Option γ
def P_expr_Size (X : Ty_expr_Size) (F : Ent3) : Ent3 := fun a s γ K => match a, s with
  | [AVal.agg [(Dat.int IntKind.i64 v_e0, Own.none), (Dat.int IntKind.i64 v_e1, Own.none), (Dat.int IntKind.i64 v_e2, Own.none), (Dat.int IntKind.i64 v_e3, Own.none), (Dat.str v_e4, Own.none), (Dat.str v_e5, Own.none), (Dat.str v_e6, Own.none), (Dat.sl v_e7, Own.none)]], [] => X v_e0 v_e1 v_e2 v_e3 v_e4 v_e5 v_e6 v_e7 γ (fun r0 => K ([(AVal.dat (Dat.int IntKind.i64 r0), Own.none)], []))
  | a, s => F a s γ K
def T_expr_Size (x_expr_scanned : Ty_expr_scanned) : CallK := (addK noneK 30 (P_expr_scanned x_expr_scanned none3))
def L_expr_Size (x_expr_scanned : Ty_expr_scanned) : LoopK := noneL
def Sp.B_expr_Size (x_expr_scanned : Ty_expr_scanned) (v_e0 : Int) (v_e1 : Int) (v_e2 : Int) (v_e3 : Int) (v_e4 : ByteArray) (v_e5 : ByteArray) (v_e6 : ByteArray) (v_e7 : List (List Dat)) (γ : Type) (K : Int → Option γ) : Option γ := x_expr_scanned v_e0 v_e1 v_e2 v_e3 v_e4 v_e5 v_e6 v_e7 γ fun (z10 z11 : Int) (z12 : Bool) => K z10
theorem e_expr_Size (p : Par) (x_expr_scanned : Ty_expr_scanned) (v_e0 : Int) (v_e1 : Int) (v_e2 : Int) (v_e3 : Int) (v_e4 : ByteArray) (v_e5 : ByteArray) (v_e6 : ByteArray) (v_e7 : List (List Dat)) (γ : Type) (K : List Ent × Sig → Option γ) : evFK (cfg p) (T_expr_Size x_expr_scanned) (L_expr_Size x_expr_scanned) 20 [AVal.agg [(Dat.int IntKind.i64 v_e0, Own.none), (Dat.int IntKind.i64 v_e1, Own.none), (Dat.int IntKind.i64 v_e2, Own.none), (Dat.int IntKind.i64 v_e3, Own.none), (Dat.str v_e4, Own.none), (Dat.str v_e5, Own.none), (Dat.str v_e6, Own.none), (Dat.sl v_e7, Own.none)]] [] γ K = Sp.B_expr_Size x_expr_scanned v_e0 v_e1 v_e2 v_e3 v_e4 v_e5 v_e6 v_e7 γ (fun r0 => K ([(AVal.dat (Dat.int IntKind.i64 r0), Own.none)], [])) := by kernel_rfl
def Sp.expr_Size : Ty_expr_Size := Sp.B_expr_Size Sp.expr_scanned
theorem E_expr_Size (p : Par) {F : Ent3} (hF : EntOk (cfg p) 20 F) : EntOk (cfg p) 20 (P_expr_Size Sp.expr_Size F) := by
  intro a s γ K q h
  unfold P_expr_Size at h
  split at h
  · exact body_ok (tab_call (tab_nil _) (E_expr_scanned p (ent_none _ _))) rfl ((e_expr_Size p _ _ _ _ _ _ _ _ _ _ _).trans h)
  · exact hF _ _ _ _ _ h
abbrev Ty_expr_Depth : Type 1 := Int → Int → Int → Int → ByteArray → ByteArray → ByteArray → List (List Dat) → (γ : Type) → (Int → Option γ) → Option γ
def P_expr_Depth (X : Ty_expr_Depth) (F : Ent3) : Ent3 := fun a s γ K => match a, s with
  | [AVal.agg [(Dat.int IntKind.i64 v_e0, Own.none), (Dat.int IntKind.i64 v_e1, Own.none), (Dat.int IntKind.i64 v_e2, Own.none), (Dat.int IntKind.i64 v_e3, Own.none), (Dat.str v_e4, Own.none), (Dat.str v_e5, Own.none), (Dat.str v_e6, Own.none), (Dat.sl v_e7, Own.none)]], [] => X v_e0 v_e1 v_e2 v_e3 v_e4 v_e5 v_e6 v_e7 γ (fun r0 => K ([(AVal.dat (Dat.int IntKind.i64 r0), Own.none)], []))
  | a, s => F a s γ K
def T_expr_Depth (x_expr_scanned : Ty_expr_scanned) : CallK := (addK noneK 30 (P_expr_scanned x_expr_scanned none3))
def L_expr_Depth (x_expr_scanned : Ty_expr_scanned) : LoopK := noneL
def Sp.B_expr_Depth (x_expr_scanned : Ty_expr_scanned) (v_e0 : Int) (v_e1 : Int) (v_e2 : Int) (v_e3 : Int) (v_e4 : ByteArray) (v_e5 : ByteArray) (v_e6 : ByteArray) (v_e7 : List (List Dat)) (γ : Type) (K : Int → Option γ) : Option γ := x_expr_scanned v_e0 v_e1 v_e2 v_e3 v_e4 v_e5 v_e6 v_e7 γ fun (z10 z11 : Int) (z12 : Bool) => K z11
theorem e_expr_Depth (p : Par) (x_expr_scanned : Ty_expr_scanned) (v_e0 : Int) (v_e1 : Int) (v_e2 : Int) (v_e3 : Int) (v_e4 : ByteArray) (v_e5 : ByteArray) (v_e6 : ByteArray) (v_e7 : List (List Dat)) (γ : Type) (K : List Ent × Sig → Option γ) : evFK (cfg p) (T_expr_Depth x_expr_scanned) (L_expr_Depth x_expr_scanned) 21 [AVal.agg [(Dat.int IntKind.i64 v_e0, Own.none), (Dat.int IntKind.i64 v_e1, Own.none), (Dat.int IntKind.i64 v_e2, Own.none), (Dat.int IntKind.i64 v_e3, Own.none), (Dat.str v_e4, Own.none), (Dat.str v_e5, Own.none), (Dat.str v_e6, Own.none), (Dat.sl v_e7, Own.none)]] [] γ K = Sp.B_expr_Depth x_expr_scanned v_e0 v_e1 v_e2 v_e3 v_e4 v_e5 v_e6 v_e7 γ (fun r0 => K ([(AVal.dat (Dat.int IntKind.i64 r0), Own.none)], [])) := by kernel_rfl
def Sp.expr_Depth : Ty_expr_Depth := Sp.B_expr_Depth Sp.expr_scanned
theorem E_expr_Depth (p : Par) {F : Ent3} (hF : EntOk (cfg p) 21 F) : EntOk (cfg p) 21 (P_expr_Depth Sp.expr_Depth F) := by
  intro a s γ K q h
  unfold P_expr_Depth at h
  split at h
  · exact body_ok (tab_call (tab_nil _) (E_expr_scanned p (ent_none _ _))) rfl ((e_expr_Depth p _ _ _ _ _ _ _ _ _ _ _).trans h)
  · exact hF _ _ _ _ _ h
abbrev Ty_value_Show : Type 1 := Int → Int → ByteArray → (γ : Type) → (ByteArray → Option γ) → Option γ
def P_value_Show (X : Ty_value_Show) (F : Ent3) : Ent3 := fun a s γ K => match a, s with
  | [AVal.agg [(Dat.int IntKind.i64 v_v0, Own.none), (Dat.int IntKind.i64 v_v1, Own.none), (Dat.str v_v2, Own.none)]], [] => X v_v0 v_v1 v_v2 γ (fun r0 => K ([(AVal.dat (Dat.str r0), Own.none)], []))
  | a, s => F a s γ K
def T_value_Show (x_value_Check : Ty_value_Check) (x_strconv_Itoa : Ty_strconv_Itoa) (x_strings_ReplaceAll : Ty_strings_ReplaceAll) : CallK := (addK (addK (addK noneK 42 (P_value_Check x_value_Check none3)) 43 (P_strconv_Itoa x_strconv_Itoa none3)) 44 (P_strings_ReplaceAll x_strings_ReplaceAll none3))
def L_value_Show (x_value_Check : Ty_value_Check) (x_strconv_Itoa : Ty_strconv_Itoa) (x_strings_ReplaceAll : Ty_strings_ReplaceAll) : LoopK := noneL
def Sp.B_value_Show (x_value_Check : Ty_value_Check) (x_strconv_Itoa : Ty_strconv_Itoa) (x_strings_ReplaceAll : Ty_strings_ReplaceAll) (v_v0 : Int) (v_v1 : Int) (v_v2 : ByteArray) (γ : Type) (K : ByteArray → Option γ) : Option γ := x_value_Check v_v0 v_v1 v_v2 γ fun (z5 : Int) => bif !decide (z5 = 0) then K (bs [63]) else bif decide (v_v0 = 0) then K (bs [78, 85, 76, 76]) else bif decide (v_v0 = 2) then x_strconv_Itoa v_v1 γ fun (z6 : ByteArray) => K z6 else bif decide (v_v0 = 3) then x_strings_ReplaceAll v_v2 (bs [39]) (bs [39, 39]) γ fun (z7 : ByteArray) => bif decide (1 + ByteArray.size z7 ≤ 1152921504606846976) then bif decide (ByteArray.size (bs [39] ++ z7) + 1 ≤ 1152921504606846976) then K (bs [39] ++ z7 ++ bs [39]) else none else none else bif decide (v_v1 = 1) then K (bs [84, 82, 85, 69]) else K (bs [70, 65, 76, 83, 69])
theorem e_value_Show (p : Par) (x_value_Check : Ty_value_Check) (x_strconv_Itoa : Ty_strconv_Itoa) (x_strings_ReplaceAll : Ty_strings_ReplaceAll) (v_v0 : Int) (v_v1 : Int) (v_v2 : ByteArray) (γ : Type) (K : List Ent × Sig → Option γ) : evFK (cfg p) (T_value_Show x_value_Check x_strconv_Itoa x_strings_ReplaceAll) (L_value_Show x_value_Check x_strconv_Itoa x_strings_ReplaceAll) 37 [AVal.agg [(Dat.int IntKind.i64 v_v0, Own.none), (Dat.int IntKind.i64 v_v1, Own.none), (Dat.str v_v2, Own.none)]] [] γ K = Sp.B_value_Show x_value_Check x_strconv_Itoa x_strings_ReplaceAll v_v0 v_v1 v_v2 γ (fun r0 => K ([(AVal.dat (Dat.str r0), Own.none)], [])) := by kernel_rfl
def Sp.value_Show : Ty_value_Show := Sp.B_value_Show Sp.value_Check Sp.strconv_Itoa Sp.strings_ReplaceAll
theorem E_value_Show (p : Par) {F : Ent3} (hF : EntOk (cfg p) 37 F) : EntOk (cfg p) 37 (P_value_Show Sp.value_Show F) := by
  intro a s γ K q h
  unfold P_value_Show at h
  split at h
  · exact body_ok (tab_call (tab_call (tab_call (tab_nil _) (E_value_Check p (ent_none _ _))) (E_strconv_Itoa p (ent_none _ _))) (E_strings_ReplaceAll p (ent_none _ _))) rfl ((e_value_Show p _ _ _ _ _ _ _ _).trans h)
  · exact hF _ _ _ _ _ h
abbrev Ty_expr_op : Type 1 := Int → Int → Int → Int → ByteArray → ByteArray → ByteArray → List (List Dat) → (γ : Type) → (ByteArray → Option γ) → Option γ
def P_expr_op (X : Ty_expr_op) (F : Ent3) : Ent3 := fun a s γ K => match a, s with
  | [AVal.agg [(Dat.int IntKind.i64 v_e0, Own.none), (Dat.int IntKind.i64 v_e1, Own.none), (Dat.int IntKind.i64 v_e2, Own.none), (Dat.int IntKind.i64 v_e3, Own.none), (Dat.str v_e4, Own.none), (Dat.str v_e5, Own.none), (Dat.str v_e6, Own.none), (Dat.sl v_e7, Own.none)]], [] => X v_e0 v_e1 v_e2 v_e3 v_e4 v_e5 v_e6 v_e7 γ (fun r0 => K ([(AVal.dat (Dat.str r0), Own.none)], []))
  | a, s => F a s γ K
abbrev Ty_expr_text : Type 1 := Int → Int → Int → Int → ByteArray → ByteArray → ByteArray → List (List Dat) → (γ : Type) → (ByteArray → Option γ) → Option γ
def P_expr_text (X : Ty_expr_text) (F : Ent3) : Ent3 := fun a s γ K => match a, s with
  | [AVal.agg [(Dat.int IntKind.i64 v_e0, Own.none), (Dat.int IntKind.i64 v_e1, Own.none), (Dat.int IntKind.i64 v_e2, Own.none), (Dat.int IntKind.i64 v_e3, Own.none), (Dat.str v_e4, Own.none), (Dat.str v_e5, Own.none), (Dat.str v_e6, Own.none), (Dat.sl v_e7, Own.none)]], [] => X v_e0 v_e1 v_e2 v_e3 v_e4 v_e5 v_e6 v_e7 γ (fun r0 => K ([(AVal.dat (Dat.str r0), Own.none)], []))
  | a, s => F a s γ K
def T_expr_op (x_expr_text : Ty_expr_text) : CallK := (addK noneK 31 (P_expr_text x_expr_text none3))
def L_expr_op (x_expr_text : Ty_expr_text) : LoopK := noneL
def Sp.B_expr_op (x_expr_text : Ty_expr_text) (v_e0 : Int) (v_e1 : Int) (v_e2 : Int) (v_e3 : Int) (v_e4 : ByteArray) (v_e5 : ByteArray) (v_e6 : ByteArray) (v_e7 : List (List Dat)) (γ : Type) (K : ByteArray → Option γ) : Option γ := elemAt v_e7 0 fun (z10 : List Dat) => bif List.length z10 == 8 then cellAt z10 0 fun (z11 : Dat) => Aev.asInt IntKind.i64 z11 fun (z12 : Int) => cellAt z10 1 fun (z13 : Dat) => Aev.asInt IntKind.i64 z13 fun (z14 : Int) => cellAt z10 2 fun (z15 : Dat) => Aev.asInt IntKind.i64 z15 fun (z16 : Int) => cellAt z10 3 fun (z17 : Dat) => Aev.asInt IntKind.i64 z17 fun (z18 : Int) => cellAt z10 4 fun (z19 : Dat) => asStr z19 fun (z20 : ByteArray) => cellAt z10 5 fun (z21 : Dat) => asStr z21 fun (z22 : ByteArray) => cellAt z10 6 fun (z23 : Dat) => asStr z23 fun (z24 : ByteArray) => cellAt z10 7 fun (z25 : Dat) => asSl z25 fun (z26 : List (List Dat)) => x_expr_text z12 z14 z16 z18 z20 z22 z24 z26 γ fun (z27 : ByteArray) => bif decide (v_e1 = 3) then bif decide (5 + ByteArray.size z27 ≤ 1152921504606846976) then bif decide (ByteArray.size (bs [40, 78, 79, 84, 32] ++ z27) + 1 ≤ 1152921504606846976) then K (bs [40, 78, 79, 84, 32] ++ z27 ++ bs [41]) else none else none else bif decide (v_e1 = 15) then bif decide (3 + ByteArray.size z27 ≤ 1152921504606846976) then bif decide (ByteArray.size (bs [40, 45, 32] ++ z27) + 1 ≤ 1152921504606846976) then K (bs [40, 45, 32] ++ z27 ++ bs [41]) else none else none else bif decide (v_e1 = 16) then bif decide (1 + ByteArray.size z27 ≤ 1152921504606846976) then bif decide (ByteArray.size (bs [40] ++ z27) + 9 ≤ 1152921504606846976) then K (bs [40] ++ z27 ++ bs [32, 73, 83, 32, 78, 85, 76, 76, 41]) else none else none else bif decide (v_e1 = 17) then bif decide (1 + ByteArray.size z27 ≤ 1152921504606846976) then bif decide (ByteArray.size (bs [40] ++ z27) + 13 ≤ 1152921504606846976) then K (bs [40] ++ z27 ++ bs [32, 73, 83, 32, 78, 79, 84, 32, 78, 85, 76, 76, 41]) else none else none else bif decide (1 + ByteArray.size z27 ≤ 1152921504606846976) then bif decide (ByteArray.size (bs [40] ++ z27) + 1 ≤ 1152921504606846976) then bif decide (0 ≤ v_e1) && decide (v_e1 < 15) then cellAt (List.drop (Int.toNat v_e1 * 1) [Dat.str (bs []), Dat.str (bs [79, 82]), Dat.str (bs [65, 78, 68]), Dat.str (bs []), Dat.str (bs [61]), Dat.str (bs [60, 62]), Dat.str (bs [60]), Dat.str (bs [60, 61]), Dat.str (bs [62]), Dat.str (bs [62, 61]), Dat.str (bs [43]), Dat.str (bs [45]), Dat.str (bs [42]), Dat.str (bs [47]), Dat.str (bs [37])]) 0 fun (z28 : Dat) => asStr z28 fun (z29 : ByteArray) => bif decide (ByteArray.size (bs [40] ++ z27 ++ bs [32]) + ByteArray.size z29 ≤ 1152921504606846976) then bif decide (ByteArray.size (bs [40] ++ z27 ++ bs [32] ++ z29) + 1 ≤ 1152921504606846976) then elemAt v_e7 1 fun (z30 : List Dat) => bif List.length z30 == 8 then cellAt z30 0 fun (z31 : Dat) => Aev.asInt IntKind.i64 z31 fun (z32 : Int) => cellAt z30 1 fun (z33 : Dat) => Aev.asInt IntKind.i64 z33 fun (z34 : Int) => cellAt z30 2 fun (z35 : Dat) => Aev.asInt IntKind.i64 z35 fun (z36 : Int) => cellAt z30 3 fun (z37 : Dat) => Aev.asInt IntKind.i64 z37 fun (z38 : Int) => cellAt z30 4 fun (z39 : Dat) => asStr z39 fun (z40 : ByteArray) => cellAt z30 5 fun (z41 : Dat) => asStr z41 fun (z42 : ByteArray) => cellAt z30 6 fun (z43 : Dat) => asStr z43 fun (z44 : ByteArray) => cellAt z30 7 fun (z45 : Dat) => asSl z45 fun (z46 : List (List Dat)) => x_expr_text z32 z34 z36 z38 z40 z42 z44 z46 γ fun (z47 : ByteArray) => bif decide (ByteArray.size (bs [40] ++ z27 ++ bs [32] ++ z29 ++ bs [32]) + ByteArray.size z47 ≤ 1152921504606846976) then bif decide (ByteArray.size (bs [40] ++ z27 ++ bs [32] ++ z29 ++ bs [32] ++ z47) + 1 ≤ 1152921504606846976) then K (bs [40] ++ z27 ++ bs [32] ++ z29 ++ bs [32] ++ z47 ++ bs [41]) else none else none else none else none else none else none else none else none else none
theorem e_expr_op (p : Par) (x_expr_text : Ty_expr_text) (v_e0 : Int) (v_e1 : Int) (v_e2 : Int) (v_e3 : Int) (v_e4 : ByteArray) (v_e5 : ByteArray) (v_e6 : ByteArray) (v_e7 : List (List Dat)) (γ : Type) (K : List Ent × Sig → Option γ) : evFK (cfg p) (T_expr_op x_expr_text) (L_expr_op x_expr_text) 38 [AVal.agg [(Dat.int IntKind.i64 v_e0, Own.none), (Dat.int IntKind.i64 v_e1, Own.none), (Dat.int IntKind.i64 v_e2, Own.none), (Dat.int IntKind.i64 v_e3, Own.none), (Dat.str v_e4, Own.none), (Dat.str v_e5, Own.none), (Dat.str v_e6, Own.none), (Dat.sl v_e7, Own.none)]] [] γ K = Sp.B_expr_op x_expr_text v_e0 v_e1 v_e2 v_e3 v_e4 v_e5 v_e6 v_e7 γ (fun r0 => K ([(AVal.dat (Dat.str r0), Own.none)], [])) := by kernel_rfl
def T_expr_text (x_value_Show : Ty_value_Show) (x_expr_op : Ty_expr_op) (x_expr_text : Ty_expr_text) : CallK := (addK (addK (addK noneK 37 (P_value_Show x_value_Show none3)) 38 (P_expr_op x_expr_op none3)) 31 (P_expr_text x_expr_text none3))
def L_expr_text (x_value_Show : Ty_value_Show) (x_expr_op : Ty_expr_op) (x_expr_text : Ty_expr_text) : LoopK := noneL
def Sp.B_expr_text (x_value_Show : Ty_value_Show) (x_expr_op : Ty_expr_op) (x_expr_text : Ty_expr_text) (v_e0 : Int) (v_e1 : Int) (v_e2 : Int) (v_e3 : Int) (v_e4 : ByteArray) (v_e5 : ByteArray) (v_e6 : ByteArray) (v_e7 : List (List Dat)) (γ : Type) (K : ByteArray → Option γ) : Option γ := bif decide (v_e0 = 1) then x_value_Show v_e2 v_e3 v_e4 γ fun (z10 : ByteArray) => K z10 else bif decide (v_e0 = 3) then x_expr_op v_e0 v_e1 v_e2 v_e3 v_e4 v_e5 v_e6 v_e7 γ fun (z11 : ByteArray) => K z11 else bif decide (v_e0 = 4) then bif decide (v_e1 = 1) then K (bs [67, 79, 85, 78, 84, 40, 42, 41]) else bif decide (v_e0 = 4) then bif decide (0 ≤ v_e1) && decide (v_e1 < 6) then cellAt (List.drop (Int.toNat v_e1 * 1) [Dat.str (bs []), Dat.str (bs []), Dat.str (bs [67, 79, 85, 78, 84]), Dat.str (bs [83, 85, 77]), Dat.str (bs [77, 73, 78]), Dat.str (bs [77, 65, 88])]) 0 fun (z12 : Dat) => asStr z12 fun (z13 : ByteArray) => bif decide (ByteArray.size z13 + 1 ≤ 1152921504606846976) then elemAt v_e7 0 fun (z14 : List Dat) => bif List.length z14 == 8 then cellAt z14 0 fun (z15 : Dat) => Aev.asInt IntKind.i64 z15 fun (z16 : Int) => cellAt z14 1 fun (z17 : Dat) => Aev.asInt IntKind.i64 z17 fun (z18 : Int) => cellAt z14 2 fun (z19 : Dat) => Aev.asInt IntKind.i64 z19 fun (z20 : Int) => cellAt z14 3 fun (z21 : Dat) => Aev.asInt IntKind.i64 z21 fun (z22 : Int) => cellAt z14 4 fun (z23 : Dat) => asStr z23 fun (z24 : ByteArray) => cellAt z14 5 fun (z25 : Dat) => asStr z25 fun (z26 : ByteArray) => cellAt z14 6 fun (z27 : Dat) => asStr z27 fun (z28 : ByteArray) => cellAt z14 7 fun (z29 : Dat) => asSl z29 fun (z30 : List (List Dat)) => x_expr_text z16 z18 z20 z22 z24 z26 z28 z30 γ fun (z31 : ByteArray) => bif decide (ByteArray.size (z13 ++ bs [40]) + ByteArray.size z31 ≤ 1152921504606846976) then bif decide (ByteArray.size (z13 ++ bs [40] ++ z31) + 1 ≤ 1152921504606846976) then K (z13 ++ bs [40] ++ z31 ++ bs [41]) else none else none else none else none else none else bif !decide (v_e5 = bs []) then bif decide (ByteArray.size v_e5 + 1 ≤ 1152921504606846976) then bif decide (ByteArray.size (v_e5 ++ bs [46]) + ByteArray.size v_e6 ≤ 1152921504606846976) then K (v_e5 ++ bs [46] ++ v_e6) else none else none else K v_e6 else bif decide (v_e0 = 4) then bif decide (0 ≤ v_e1) && decide (v_e1 < 6) then cellAt (List.drop (Int.toNat v_e1 * 1) [Dat.str (bs []), Dat.str (bs []), Dat.str (bs [67, 79, 85, 78, 84]), Dat.str (bs [83, 85, 77]), Dat.str (bs [77, 73, 78]), Dat.str (bs [77, 65, 88])]) 0 fun (z32 : Dat) => asStr z32 fun (z33 : ByteArray) => bif decide (ByteArray.size z33 + 1 ≤ 1152921504606846976) then elemAt v_e7 0 fun (z34 : List Dat) => bif List.length z34 == 8 then cellAt z34 0 fun (z35 : Dat) => Aev.asInt IntKind.i64 z35 fun (z36 : Int) => cellAt z34 1 fun (z37 : Dat) => Aev.asInt IntKind.i64 z37 fun (z38 : Int) => cellAt z34 2 fun (z39 : Dat) => Aev.asInt IntKind.i64 z39 fun (z40 : Int) => cellAt z34 3 fun (z41 : Dat) => Aev.asInt IntKind.i64 z41 fun (z42 : Int) => cellAt z34 4 fun (z43 : Dat) => asStr z43 fun (z44 : ByteArray) => cellAt z34 5 fun (z45 : Dat) => asStr z45 fun (z46 : ByteArray) => cellAt z34 6 fun (z47 : Dat) => asStr z47 fun (z48 : ByteArray) => cellAt z34 7 fun (z49 : Dat) => asSl z49 fun (z50 : List (List Dat)) => x_expr_text z36 z38 z40 z42 z44 z46 z48 z50 γ fun (z51 : ByteArray) => bif decide (ByteArray.size (z33 ++ bs [40]) + ByteArray.size z51 ≤ 1152921504606846976) then bif decide (ByteArray.size (z33 ++ bs [40] ++ z51) + 1 ≤ 1152921504606846976) then K (z33 ++ bs [40] ++ z51 ++ bs [41]) else none else none else none else none else none else bif !decide (v_e5 = bs []) then bif decide (ByteArray.size v_e5 + 1 ≤ 1152921504606846976) then bif decide (ByteArray.size (v_e5 ++ bs [46]) + ByteArray.size v_e6 ≤ 1152921504606846976) then K (v_e5 ++ bs [46] ++ v_e6) else none else none else K v_e6
theorem e_expr_text (p : Par) (x_value_Show : Ty_value_Show) (x_expr_op : Ty_expr_op) (x_expr_text : Ty_expr_text) (v_e0 : Int) (v_e1 : Int) (v_e2 : Int) (v_e3 : Int) (v_e4 : ByteArray) (v_e5 : ByteArray) (v_e6 : ByteArray) (v_e7 : List (List Dat)) (γ : Type) (K : List Ent × Sig → Option γ) : evFK (cfg p) (T_expr_text x_value_Show x_expr_op x_expr_text) (L_expr_text x_value_Show x_expr_op x_expr_text) 31 [AVal.agg [(Dat.int IntKind.i64 v_e0, Own.none), (Dat.int IntKind.i64 v_e1, Own.none), (Dat.int IntKind.i64 v_e2, Own.none), (Dat.int IntKind.i64 v_e3, Own.none), (Dat.str v_e4, Own.none), (Dat.str v_e5, Own.none), (Dat.str v_e6, Own.none), (Dat.sl v_e7, Own.none)]] [] γ K = Sp.B_expr_text x_value_Show x_expr_op x_expr_text v_e0 v_e1 v_e2 v_e3 v_e4 v_e5 v_e6 v_e7 γ (fun r0 => K ([(AVal.dat (Dat.str r0), Own.none)], [])) := by kernel_rfl
mutual
def Sp.expr_op : Nat → Ty_expr_op
  | 0 => fun _ _ _ _ _ _ _ _ _ _ => none
  | n + 1 => Sp.B_expr_op (Sp.expr_text n)
def Sp.expr_text : Nat → Ty_expr_text
  | 0 => fun _ _ _ _ _ _ _ _ _ _ => none
  | n + 1 => Sp.B_expr_text Sp.value_Show (Sp.expr_op n) (Sp.expr_text n)
end
theorem G40_ok (p : Par) (n : Nat) : (∀ {F : Ent3}, EntOk (cfg p) 38 F → EntOk (cfg p) 38 (P_expr_op (Sp.expr_op n) F)) ∧ (∀ {F : Ent3}, EntOk (cfg p) 31 F → EntOk (cfg p) 31 (P_expr_text (Sp.expr_text n) F)) := by
  induction n with
  | zero =>
    refine ⟨?_, ?_⟩
    · intro F hF a s γ K q h
      unfold P_expr_op at h
      split at h
      · cases h
      · exact hF _ _ _ _ _ h
    · intro F hF a s γ K q h
      unfold P_expr_text at h
      split at h
      · cases h
      · exact hF _ _ _ _ _ h
  | succ n ih =>
    refine ⟨?_, ?_⟩
    · intro F hF a s γ K q h
      unfold P_expr_op at h
      split at h
      · exact body_ok (tab_call (tab_nil _) (ih.2 (ent_none _ _))) rfl ((e_expr_op p _ _ _ _ _ _ _ _ _ _ _).trans h)
      · exact hF _ _ _ _ _ h
    · intro F hF a s γ K q h
      unfold P_expr_text at h
      split at h
      · exact body_ok (tab_call (tab_call (tab_call (tab_nil _) (E_value_Show p (ent_none _ _))) (ih.1 (ent_none _ _))) (ih.2 (ent_none _ _))) rfl ((e_expr_text p _ _ _ _ _ _ _ _ _ _ _ _ _).trans h)
      · exact hF _ _ _ _ _ h
theorem E_expr_op (p : Par) (n : Nat) {F : Ent3} (hF : EntOk (cfg p) 38 F) : EntOk (cfg p) 38 (P_expr_op (Sp.expr_op n) F) := (G40_ok p n).1 hF
theorem E_expr_text (p : Par) (n : Nat) {F : Ent3} (hF : EntOk (cfg p) 31 F) : EntOk (cfg p) 31 (P_expr_text (Sp.expr_text n) F) := (G40_ok p n).2 hF
abbrev Ty_expr_Show : Type 1 := Int → Int → Int → Int → ByteArray → ByteArray → ByteArray → List (List Dat) → (γ : Type) → (ByteArray → Option γ) → Option γ
def P_expr_Show (X : Ty_expr_Show) (F : Ent3) : Ent3 := fun a s γ K => match a, s with
  | [AVal.agg [(Dat.int IntKind.i64 v_e0, Own.none), (Dat.int IntKind.i64 v_e1, Own.none), (Dat.int IntKind.i64 v_e2, Own.none), (Dat.int IntKind.i64 v_e3, Own.none), (Dat.str v_e4, Own.none), (Dat.str v_e5, Own.none), (Dat.str v_e6, Own.none), (Dat.sl v_e7, Own.none)]], [] => X v_e0 v_e1 v_e2 v_e3 v_e4 v_e5 v_e6 v_e7 γ (fun r0 => K ([(AVal.dat (Dat.str r0), Own.none)], []))
  | a, s => F a s γ K
def T_expr_Show (x_expr_Check : Ty_expr_Check) (x_expr_text : Ty_expr_text) : CallK := (addK (addK noneK 19 (P_expr_Check x_expr_Check none3)) 31 (P_expr_text x_expr_text none3))
def L_expr_Show (x_expr_Check : Ty_expr_Check) (x_expr_text : Ty_expr_text) : LoopK := noneL
def Sp.B_expr_Show (x_expr_Check : Ty_expr_Check) (x_expr_text : Ty_expr_text) (v_e0 : Int) (v_e1 : Int) (v_e2 : Int) (v_e3 : Int) (v_e4 : ByteArray) (v_e5 : ByteArray) (v_e6 : ByteArray) (v_e7 : List (List Dat)) (γ : Type) (K : ByteArray → Option γ) : Option γ := x_expr_Check v_e0 v_e1 v_e2 v_e3 v_e4 v_e5 v_e6 v_e7 γ fun (z10 : Int) => bif !decide (z10 = 0) then K (bs []) else x_expr_text v_e0 v_e1 v_e2 v_e3 v_e4 v_e5 v_e6 v_e7 γ fun (z11 : ByteArray) => K z11
theorem e_expr_Show (p : Par) (x_expr_Check : Ty_expr_Check) (x_expr_text : Ty_expr_text) (v_e0 : Int) (v_e1 : Int) (v_e2 : Int) (v_e3 : Int) (v_e4 : ByteArray) (v_e5 : ByteArray) (v_e6 : ByteArray) (v_e7 : List (List Dat)) (γ : Type) (K : List Ent × Sig → Option γ) : evFK (cfg p) (T_expr_Show x_expr_Check x_expr_text) (L_expr_Show x_expr_Check x_expr_text) 22 [AVal.agg [(Dat.int IntKind.i64 v_e0, Own.none), (Dat.int IntKind.i64 v_e1, Own.none), (Dat.int IntKind.i64 v_e2, Own.none), (Dat.int IntKind.i64 v_e3, Own.none), (Dat.str v_e4, Own.none), (Dat.str v_e5, Own.none), (Dat.str v_e6, Own.none), (Dat.sl v_e7, Own.none)]] [] γ K = Sp.B_expr_Show x_expr_Check x_expr_text v_e0 v_e1 v_e2 v_e3 v_e4 v_e5 v_e6 v_e7 γ (fun r0 => K ([(AVal.dat (Dat.str r0), Own.none)], [])) := by kernel_rfl
def Sp.expr_Show : Ty_expr_Show := Sp.B_expr_Show Sp.expr_Check (Sp.expr_text fuel)
theorem E_expr_Show (p : Par) {F : Ent3} (hF : EntOk (cfg p) 22 F) : EntOk (cfg p) 22 (P_expr_Show Sp.expr_Show F) := by
  intro a s γ K q h
  unfold P_expr_Show at h
  split at h
  · exact body_ok (tab_call (tab_call (tab_nil _) (E_expr_Check p (ent_none _ _))) (E_expr_text p fuel (ent_none _ _))) rfl ((e_expr_Show p _ _ _ _ _ _ _ _ _ _ _ _).trans h)
  · exact hF _ _ _ _ _ h
abbrev Ty_expr_Columns : Type 1 := Int → Int → Int → Int → ByteArray → ByteArray → ByteArray → List (List Dat) → (γ : Type) → (List (List Dat) → Option γ) → Option γ
def P_expr_Columns (X : Ty_expr_Columns) (F : Ent3) : Ent3 := fun a s γ K => match a, s with
  | [AVal.agg [(Dat.int IntKind.i64 v_e0, Own.none), (Dat.int IntKind.i64 v_e1, Own.none), (Dat.int IntKind.i64 v_e2, Own.none), (Dat.int IntKind.i64 v_e3, Own.none), (Dat.str v_e4, Own.none), (Dat.str v_e5, Own.none), (Dat.str v_e6, Own.none), (Dat.sl v_e7, Own.none)]], [] => X v_e0 v_e1 v_e2 v_e3 v_e4 v_e5 v_e6 v_e7 γ (fun r0 => K ([(AVal.dat (Dat.sl r0), Own.none)], []))
  | a, s => F a s γ K
def T_expr_Columns (x_expr_kinds : Ty_expr_kinds) : CallK := (addK noneK 32 (P_expr_kinds x_expr_kinds none3))
def L_expr_Columns (x_expr_kinds : Ty_expr_kinds) : LoopK := noneL
def Sp.B_expr_Columns (x_expr_kinds : Ty_expr_kinds) (v_e0 : Int) (v_e1 : Int) (v_e2 : Int) (v_e3 : Int) (v_e4 : ByteArray) (v_e5 : ByteArray) (v_e6 : ByteArray) (v_e7 : List (List Dat)) (γ : Type) (K : List (List Dat) → Option γ) : Option γ := x_expr_kinds v_e0 v_e1 v_e2 v_e3 v_e4 v_e5 v_e6 v_e7 2 γ fun (z10 : List (List Dat)) => K z10
theorem e_expr_Columns (p : Par) (x_expr_kinds : Ty_expr_kinds) (v_e0 : Int) (v_e1 : Int) (v_e2 : Int) (v_e3 : Int) (v_e4 : ByteArray) (v_e5 : ByteArray) (v_e6 : ByteArray) (v_e7 : List (List Dat)) (γ : Type) (K : List Ent × Sig → Option γ) : evFK (cfg p) (T_expr_Columns x_expr_kinds) (L_expr_Columns x_expr_kinds) 23 [AVal.agg [(Dat.int IntKind.i64 v_e0, Own.none), (Dat.int IntKind.i64 v_e1, Own.none), (Dat.int IntKind.i64 v_e2, Own.none), (Dat.int IntKind.i64 v_e3, Own.none), (Dat.str v_e4, Own.none), (Dat.str v_e5, Own.none), (Dat.str v_e6, Own.none), (Dat.sl v_e7, Own.none)]] [] γ K = Sp.B_expr_Columns x_expr_kinds v_e0 v_e1 v_e2 v_e3 v_e4 v_e5 v_e6 v_e7 γ (fun r0 => K ([(AVal.dat (Dat.sl r0), Own.none)], [])) := by kernel_rfl
def Sp.expr_Columns : Ty_expr_Columns := Sp.B_expr_Columns Sp.expr_kinds
theorem E_expr_Columns (p : Par) {F : Ent3} (hF : EntOk (cfg p) 23 F) : EntOk (cfg p) 23 (P_expr_Columns Sp.expr_Columns F) := by
  intro a s γ K q h
  unfold P_expr_Columns at h
  split at h
  · exact body_ok (tab_call (tab_nil _) (E_expr_kinds p (ent_none _ _))) rfl ((e_expr_Columns p _ _ _ _ _ _ _ _ _ _ _).trans h)
  · exact hF _ _ _ _ _ h
abbrev Ty_expr_split : Type 1 := Int → Int → Int → Int → ByteArray → ByteArray → ByteArray → List (List Dat) → (γ : Type) → (List (List Dat) → Option γ) → Option γ
def P_expr_split (X : Ty_expr_split) (F : Ent3) : Ent3 := fun a s γ K => match a, s with
  | [AVal.agg [(Dat.int IntKind.i64 v_e0, Own.none), (Dat.int IntKind.i64 v_e1, Own.none), (Dat.int IntKind.i64 v_e2, Own.none), (Dat.int IntKind.i64 v_e3, Own.none), (Dat.str v_e4, Own.none), (Dat.str v_e5, Own.none), (Dat.str v_e6, Own.none), (Dat.sl v_e7, Own.none)]], [] => X v_e0 v_e1 v_e2 v_e3 v_e4 v_e5 v_e6 v_e7 γ (fun r0 => K ([(AVal.dat (Dat.sl r0), Own.id 0 8)], []))
  | a, s => F a s γ K
def T_expr_split (x_expr_split : Ty_expr_split) : CallK := (addK noneK 34 (P_expr_split x_expr_split none3))
def L_expr_split (x_expr_split : Ty_expr_split) : LoopK := noneL
def Sp.B_expr_split (x_expr_split : Ty_expr_split) (v_e0 : Int) (v_e1 : Int) (v_e2 : Int) (v_e3 : Int) (v_e4 : ByteArray) (v_e5 : ByteArray) (v_e6 : ByteArray) (v_e7 : List (List Dat)) (γ : Type) (K : List (List Dat) → Option γ) : Option γ := bif !decide (v_e0 = 3) then K [[Dat.int IntKind.i64 v_e0, Dat.int IntKind.i64 v_e1, Dat.int IntKind.i64 v_e2, Dat.int IntKind.i64 v_e3, Dat.str v_e4, Dat.str v_e5, Dat.str v_e6, Dat.sl v_e7]] else bif !decide (v_e1 = 2) then K [[Dat.int IntKind.i64 v_e0, Dat.int IntKind.i64 v_e1, Dat.int IntKind.i64 v_e2, Dat.int IntKind.i64 v_e3, Dat.str v_e4, Dat.str v_e5, Dat.str v_e6, Dat.sl v_e7]] else elemAt v_e7 0 fun (z10 : List Dat) => bif List.length z10 == 8 then cellAt z10 0 fun (z11 : Dat) => Aev.asInt IntKind.i64 z11 fun (z12 : Int) => cellAt z10 1 fun (z13 : Dat) => Aev.asInt IntKind.i64 z13 fun (z14 : Int) => cellAt z10 2 fun (z15 : Dat) => Aev.asInt IntKind.i64 z15 fun (z16 : Int) => cellAt z10 3 fun (z17 : Dat) => Aev.asInt IntKind.i64 z17 fun (z18 : Int) => cellAt z10 4 fun (z19 : Dat) => asStr z19 fun (z20 : ByteArray) => cellAt z10 5 fun (z21 : Dat) => asStr z21 fun (z22 : ByteArray) => cellAt z10 6 fun (z23 : Dat) => asStr z23 fun (z24 : ByteArray) => cellAt z10 7 fun (z25 : Dat) => asSl z25 fun (z26 : List (List Dat)) => x_expr_split z12 z14 z16 z18 z20 z22 z24 z26 γ fun (z27 : List (List Dat)) => elemAt v_e7 1 fun (z28 : List Dat) => bif List.length z28 == 8 then cellAt z28 0 fun (z29 : Dat) => Aev.asInt IntKind.i64 z29 fun (z30 : Int) => cellAt z28 1 fun (z31 : Dat) => Aev.asInt IntKind.i64 z31 fun (z32 : Int) => cellAt z28 2 fun (z33 : Dat) => Aev.asInt IntKind.i64 z33 fun (z34 : Int) => cellAt z28 3 fun (z35 : Dat) => Aev.asInt IntKind.i64 z35 fun (z36 : Int) => cellAt z28 4 fun (z37 : Dat) => asStr z37 fun (z38 : ByteArray) => cellAt z28 5 fun (z39 : Dat) => asStr z39 fun (z40 : ByteArray) => cellAt z28 6 fun (z41 : Dat) => asStr z41 fun (z42 : ByteArray) => cellAt z28 7 fun (z43 : Dat) => asSl z43 fun (z44 : List (List Dat)) => x_expr_split z30 z32 z34 z36 z38 z40 z42 z44 γ fun (z45 : List (List Dat)) => bif sized z27 8 && sized z45 8 && true && decide ((List.length z27 + List.length z45) * 105 ≤ 70368744177664) && true then K (z27 ++ z45) else none else none else none
theorem e_expr_split (p : Par) (x_expr_split : Ty_expr_split) (v_e0 : Int) (v_e1 : Int) (v_e2 : Int) (v_e3 : Int) (v_e4 : ByteArray) (v_e5 : ByteArray) (v_e6 : ByteArray) (v_e7 : List (List Dat)) (γ : Type) (K : List Ent × Sig → Option γ) : evFK (cfg p) (T_expr_split x_expr_split) (L_expr_split x_expr_split) 34 [AVal.agg [(Dat.int IntKind.i64 v_e0, Own.none), (Dat.int IntKind.i64 v_e1, Own.none), (Dat.int IntKind.i64 v_e2, Own.none), (Dat.int IntKind.i64 v_e3, Own.none), (Dat.str v_e4, Own.none), (Dat.str v_e5, Own.none), (Dat.str v_e6, Own.none), (Dat.sl v_e7, Own.none)]] [] γ K = Sp.B_expr_split x_expr_split v_e0 v_e1 v_e2 v_e3 v_e4 v_e5 v_e6 v_e7 γ (fun r0 => K ([(AVal.dat (Dat.sl r0), Own.id 0 8)], [])) := by kernel_rfl
def Sp.expr_split : Nat → Ty_expr_split
  | 0 => fun _ _ _ _ _ _ _ _ _ _ => none
  | n + 1 => Sp.B_expr_split (Sp.expr_split n)
theorem G45_ok (p : Par) (n : Nat) : (∀ {F : Ent3}, EntOk (cfg p) 34 F → EntOk (cfg p) 34 (P_expr_split (Sp.expr_split n) F)) := by
  induction n with
  | zero =>
    refine ?_
    · intro F hF a s γ K q h
      unfold P_expr_split at h
      split at h
      · cases h
      · exact hF _ _ _ _ _ h
  | succ n ih =>
    refine ?_
    · intro F hF a s γ K q h
      unfold P_expr_split at h
      split at h
      · exact body_ok (tab_call (tab_nil _) (ih (ent_none _ _))) rfl ((e_expr_split p _ _ _ _ _ _ _ _ _ _ _).trans h)
      · exact hF _ _ _ _ _ h
theorem E_expr_split (p : Par) (n : Nat) {F : Ent3} (hF : EntOk (cfg p) 34 F) : EntOk (cfg p) 34 (P_expr_split (Sp.expr_split n) F) := (G45_ok p n) hF
abbrev Ty_expr_Parts : Type 1 := Int → Int → Int → Int → ByteArray → ByteArray → ByteArray → List (List Dat) → (γ : Type) → (List (List Dat) → Option γ) → Option γ
def P_expr_Parts (X : Ty_expr_Parts) (F : Ent3) : Ent3 := fun a s γ K => match a, s with
  | [AVal.agg [(Dat.int IntKind.i64 v_e0, Own.none), (Dat.int IntKind.i64 v_e1, Own.none), (Dat.int IntKind.i64 v_e2, Own.none), (Dat.int IntKind.i64 v_e3, Own.none), (Dat.str v_e4, Own.none), (Dat.str v_e5, Own.none), (Dat.str v_e6, Own.none), (Dat.sl v_e7, Own.none)]], [] => X v_e0 v_e1 v_e2 v_e3 v_e4 v_e5 v_e6 v_e7 γ (fun r0 => K ([(AVal.dat (Dat.sl r0), Own.none)], []))
  | a, s => F a s γ K
def T_expr_Parts (x_expr_Check : Ty_expr_Check) (x_expr_split : Ty_expr_split) : CallK := (addK (addK noneK 19 (P_expr_Check x_expr_Check none3)) 34 (P_expr_split x_expr_split none3))
def L_expr_Parts (x_expr_Check : Ty_expr_Check) (x_expr_split : Ty_expr_split) : LoopK := noneL
def Sp.B_expr_Parts (x_expr_Check : Ty_expr_Check) (x_expr_split : Ty_expr_split) (v_e0 : Int) (v_e1 : Int) (v_e2 : Int) (v_e3 : Int) (v_e4 : ByteArray) (v_e5 : ByteArray) (v_e6 : ByteArray) (v_e7 : List (List Dat)) (γ : Type) (K : List (List Dat) → Option γ) : Option γ := x_expr_Check v_e0 v_e1 v_e2 v_e3 v_e4 v_e5 v_e6 v_e7 γ fun (z10 : Int) => bif !decide (z10 = 0) then K [] else x_expr_split v_e0 v_e1 v_e2 v_e3 v_e4 v_e5 v_e6 v_e7 γ fun (z11 : List (List Dat)) => K z11
theorem e_expr_Parts (p : Par) (x_expr_Check : Ty_expr_Check) (x_expr_split : Ty_expr_split) (v_e0 : Int) (v_e1 : Int) (v_e2 : Int) (v_e3 : Int) (v_e4 : ByteArray) (v_e5 : ByteArray) (v_e6 : ByteArray) (v_e7 : List (List Dat)) (γ : Type) (K : List Ent × Sig → Option γ) : evFK (cfg p) (T_expr_Parts x_expr_Check x_expr_split) (L_expr_Parts x_expr_Check x_expr_split) 25 [AVal.agg [(Dat.int IntKind.i64 v_e0, Own.none), (Dat.int IntKind.i64 v_e1, Own.none), (Dat.int IntKind.i64 v_e2, Own.none), (Dat.int IntKind.i64 v_e3, Own.none), (Dat.str v_e4, Own.none), (Dat.str v_e5, Own.none), (Dat.str v_e6, Own.none), (Dat.sl v_e7, Own.none)]] [] γ K = Sp.B_expr_Parts x_expr_Check x_expr_split v_e0 v_e1 v_e2 v_e3 v_e4 v_e5 v_e6 v_e7 γ (fun r0 => K ([(AVal.dat (Dat.sl r0), Own.none)], [])) := by kernel_rfl
def Sp.expr_Parts : Ty_expr_Parts := Sp.B_expr_Parts Sp.expr_Check (Sp.expr_split fuel)
theorem E_expr_Parts (p : Par) {F : Ent3} (hF : EntOk (cfg p) 25 F) : EntOk (cfg p) 25 (P_expr_Parts Sp.expr_Parts F) := by
  intro a s γ K q h
  unfold P_expr_Parts at h
  split at h
  · exact body_ok (tab_call (tab_call (tab_nil _) (E_expr_Check p (ent_none _ _))) (E_expr_split p fuel (ent_none _ _))) rfl ((e_expr_Parts p _ _ _ _ _ _ _ _ _ _ _ _).trans h)
  · exact hF _ _ _ _ _ h
abbrev Ty_value_Bool : Type 1 := Bool → (γ : Type) → (Int → Int → ByteArray → Option γ) → Option γ
def P_value_Bool (X : Ty_value_Bool) (F : Ent3) : Ent3 := fun a s γ K => match a, s with
  | [AVal.dat (Dat.bool v_is)], [] => X v_is γ (fun r0 r1 r2 => K ([(AVal.agg [(Dat.int IntKind.i64 r0, Own.none), (Dat.int IntKind.i64 r1, Own.none), (Dat.str r2, Own.none)], Own.none)], []))
  | a, s => F a s γ K
def T_value_Bool  : CallK := noneK
def L_value_Bool  : LoopK := noneL
def Sp.B_value_Bool  (v_is : Bool) (γ : Type) (K : Int → Int → ByteArray → Option γ) : Option γ := bif v_is then K 1 1 (bs []) else K 1 0 (bs [])
theorem e_value_Bool (p : Par)  (v_is : Bool) (γ : Type) (K : List Ent × Sig → Option γ) : evFK (cfg p) (T_value_Bool ) (L_value_Bool ) 35 [AVal.dat (Dat.bool v_is)] [] γ K = Sp.B_value_Bool  v_is γ (fun r0 r1 r2 => K ([(AVal.agg [(Dat.int IntKind.i64 r0, Own.none), (Dat.int IntKind.i64 r1, Own.none), (Dat.str r2, Own.none)], Own.none)], [])) := by kernel_rfl
def Sp.value_Bool : Ty_value_Bool := Sp.B_value_Bool 
theorem E_value_Bool (p : Par) {F : Ent3} (hF : EntOk (cfg p) 35 F) : EntOk (cfg p) 35 (P_value_Bool Sp.value_Bool F) := by
  intro a s γ K q h
  unfold P_value_Bool at h
  split at h
  · exact body_ok (tab_nil _) rfl ((e_value_Bool p  _ _ _).trans h)
  · exact hF _ _ _ _ _ h
abbrev Ty_expr_All_L0 : Type 1 := List (List Dat) → Int → Int → Int → Int → Int → Int → ByteArray → ByteArray → ByteArray → List (List Dat) → Int → Int → Int → Int → ByteArray → ByteArray → ByteArray → List (List Dat) → (γ : Type) → (Ex → Int → Int → Int → Int → Int → ByteArray → ByteArray → ByteArray → List (List Dat) → Int → Int → Int → Int → ByteArray → ByteArray → ByteArray → List (List Dat) → Option γ) → Option γ
def P_expr_All_L0 (X : Ty_expr_All_L0) (F : Loop3) : Loop3 := fun a s γ K => match a, s with
  | [AVal.loc 2 0, AVal.loc 3 0, AVal.dat (Dat.sl v_), AVal.dat (Dat.int IntKind.i64 v__1)], ([AVal.dat (Dat.int IntKind.i64 v__2), AVal.agg [(Dat.int IntKind.i64 v_box0, Own.none), (Dat.int IntKind.i64 v_box1, Own.none), (Dat.int IntKind.i64 v_box2, Own.none), (Dat.int IntKind.i64 v_box3, Own.none), (Dat.str v_box4, Own.none), (Dat.str v_box5, Own.none), (Dat.str v_box6, Own.none), (Dat.sl v_box7, Own.none)], AVal.agg [(Dat.int IntKind.i64 v_box0_1, Own.none), (Dat.int IntKind.i64 v_box1_1, Own.none), (Dat.int IntKind.i64 v_box2_1, Own.none), (Dat.int IntKind.i64 v_box3_1, Own.none), (Dat.str v_box4_1, Own.none), (Dat.str v_box5_1, Own.none), (Dat.str v_box6_1, Own.none), (Dat.sl v_box7_1, Own.none)]], []) => X v_ v__1 v__2 v_box0 v_box1 v_box2 v_box3 v_box4 v_box5 v_box6 v_box7 v_box0_1 v_box1_1 v_box2_1 v_box3_1 v_box4_1 v_box5_1 v_box6_1 v_box7_1 γ (fun e x0 x1 x2 x3 x4 x5 x6 x7 x8 x9 x10 x11 x12 x13 x14 x15 x16 => K (e, ([AVal.dat (Dat.int IntKind.i64 x0), AVal.agg [(Dat.int IntKind.i64 x1, Own.none), (Dat.int IntKind.i64 x2, Own.none), (Dat.int IntKind.i64 x3, Own.none), (Dat.int IntKind.i64 x4, Own.none), (Dat.str x5, Own.none), (Dat.str x6, Own.none), (Dat.str x7, Own.none), (Dat.sl x8, Own.none)], AVal.agg [(Dat.int IntKind.i64 x9, Own.none), (Dat.int IntKind.i64 x10, Own.none), (Dat.int IntKind.i64 x11, Own.none), (Dat.int IntKind.i64 x12, Own.none), (Dat.str x13, Own.none), (Dat.str x14, Own.none), (Dat.str x15, Own.none), (Dat.sl x16, Own.none)]], [])))
  | a, s => F a s γ K
def T_expr_All_L0 (x_expr_Op : Ty_expr_Op) : CallK := (addK noneK 11 (P_expr_Op x_expr_Op none3))
def L_expr_All_L0 (x_expr_Op : Ty_expr_Op) : LoopK := noneL
def Sp.B_expr_All_L0 (x_expr_All_L0 : Ty_expr_All_L0) (x_expr_Op : Ty_expr_Op) (v_ : List (List Dat)) (v__1 : Int) (v__2 : Int) (v_box0 : Int) (v_box1 : Int) (v_box2 : Int) (v_box3 : Int) (v_box4 : ByteArray) (v_box5 : ByteArray) (v_box6 : ByteArray) (v_box7 : List (List Dat)) (v_box0_1 : Int) (v_box1_1 : Int) (v_box2_1 : Int) (v_box3_1 : Int) (v_box4_1 : ByteArray) (v_box5_1 : ByteArray) (v_box6_1 : ByteArray) (v_box7_1 : List (List Dat)) (γ : Type) (K : Ex → Int → Int → Int → Int → Int → ByteArray → ByteArray → ByteArray → List (List Dat) → Int → Int → Int → Int → ByteArray → ByteArray → ByteArray → List (List Dat) → Option γ) : Option γ := bif decide (v__2 < v__1) then elemAt v_ v__2 fun (z21 : List Dat) => bif List.length z21 == 8 then cellAt z21 0 fun (z22 : Dat) => Aev.asInt IntKind.i64 z22 fun (z23 : Int) => cellAt z21 1 fun (z24 : Dat) => Aev.asInt IntKind.i64 z24 fun (z25 : Int) => cellAt z21 2 fun (z26 : Dat) => Aev.asInt IntKind.i64 z26 fun (z27 : Int) => cellAt z21 3 fun (z28 : Dat) => Aev.asInt IntKind.i64 z28 fun (z29 : Int) => cellAt z21 4 fun (z30 : Dat) => asStr z30 fun (z31 : ByteArray) => cellAt z21 5 fun (z32 : Dat) => asStr z32 fun (z33 : ByteArray) => cellAt z21 6 fun (z34 : Dat) => asStr z34 fun (z35 : ByteArray) => cellAt z21 7 fun (z36 : Dat) => asSl z36 fun (z37 : List (List Dat)) => x_expr_Op 2 [[Dat.int IntKind.i64 v_box0_1, Dat.int IntKind.i64 v_box1_1, Dat.int IntKind.i64 v_box2_1, Dat.int IntKind.i64 v_box3_1, Dat.str v_box4_1, Dat.str v_box5_1, Dat.str v_box6_1, Dat.sl v_box7_1], [Dat.int IntKind.i64 z23, Dat.int IntKind.i64 z25, Dat.int IntKind.i64 z27, Dat.int IntKind.i64 z29, Dat.str z31, Dat.str z33, Dat.str z35, Dat.sl z37]] γ fun (z38 z39 z40 z41 : Int) (z42 z43 z44 : ByteArray) (z45 : List (List Dat)) => x_expr_All_L0 v_ v__1 (IntKind.wrap IntKind.i64 (v__2 + 1)) v_box0 v_box1 v_box2 v_box3 v_box4 v_box5 v_box6 v_box7 z38 z39 z40 z41 z42 z43 z44 z45 γ K else none else K (Ex.exit 0) v__2 v_box0 v_box1 v_box2 v_box3 v_box4 v_box5 v_box6 v_box7 v_box0_1 v_box1_1 v_box2_1 v_box3_1 v_box4_1 v_box5_1 v_box6_1 v_box7_1
theorem e_expr_All_L0 (p : Par) (x_expr_All_L0 : Ty_expr_All_L0) (x_expr_Op : Ty_expr_Op) (v_ : List (List Dat)) (v__1 : Int) (v__2 : Int) (v_box0 : Int) (v_box1 : Int) (v_box2 : Int) (v_box3 : Int) (v_box4 : ByteArray) (v_box5 : ByteArray) (v_box6 : ByteArray) (v_box7 : List (List Dat)) (v_box0_1 : Int) (v_box1_1 : Int) (v_box2_1 : Int) (v_box3_1 : Int) (v_box4_1 : ByteArray) (v_box5_1 : ByteArray) (v_box6_1 : ByteArray) (v_box7_1 : List (List Dat)) (γ : Type) (K : Ex × Vars → Option γ) : roundK (cfg p) (T_expr_All_L0 x_expr_Op) (L_expr_All_L0 x_expr_Op) 26 0 [AVal.loc 2 0, AVal.loc 3 0, AVal.dat (Dat.sl v_), AVal.dat (Dat.int IntKind.i64 v__1)] ([AVal.dat (Dat.int IntKind.i64 v__2), AVal.agg [(Dat.int IntKind.i64 v_box0, Own.none), (Dat.int IntKind.i64 v_box1, Own.none), (Dat.int IntKind.i64 v_box2, Own.none), (Dat.int IntKind.i64 v_box3, Own.none), (Dat.str v_box4, Own.none), (Dat.str v_box5, Own.none), (Dat.str v_box6, Own.none), (Dat.sl v_box7, Own.none)], AVal.agg [(Dat.int IntKind.i64 v_box0_1, Own.none), (Dat.int IntKind.i64 v_box1_1, Own.none), (Dat.int IntKind.i64 v_box2_1, Own.none), (Dat.int IntKind.i64 v_box3_1, Own.none), (Dat.str v_box4_1, Own.none), (Dat.str v_box5_1, Own.none), (Dat.str v_box6_1, Own.none), (Dat.sl v_box7_1, Own.none)]], []) γ (contL (fun v => P_expr_All_L0 x_expr_All_L0 noneL3 [AVal.loc 2 0, AVal.loc 3 0, AVal.dat (Dat.sl v_), AVal.dat (Dat.int IntKind.i64 v__1)] v γ K) K) = Sp.B_expr_All_L0 x_expr_All_L0 x_expr_Op v_ v__1 v__2 v_box0 v_box1 v_box2 v_box3 v_box4 v_box5 v_box6 v_box7 v_box0_1 v_box1_1 v_box2_1 v_box3_1 v_box4_1 v_box5_1 v_box6_1 v_box7_1 γ (fun e x0 x1 x2 x3 x4 x5 x6 x7 x8 x9 x10 x11 x12 x13 x14 x15 x16 => K (e, ([AVal.dat (Dat.int IntKind.i64 x0), AVal.agg [(Dat.int IntKind.i64 x1, Own.none), (Dat.int IntKind.i64 x2, Own.none), (Dat.int IntKind.i64 x3, Own.none), (Dat.int IntKind.i64 x4, Own.none), (Dat.str x5, Own.none), (Dat.str x6, Own.none), (Dat.str x7, Own.none), (Dat.sl x8, Own.none)], AVal.agg [(Dat.int IntKind.i64 x9, Own.none), (Dat.int IntKind.i64 x10, Own.none), (Dat.int IntKind.i64 x11, Own.none), (Dat.int IntKind.i64 x12, Own.none), (Dat.str x13, Own.none), (Dat.str x14, Own.none), (Dat.str x15, Own.none), (Dat.sl x16, Own.none)]], []))) := by kernel_rfl
def Sp.expr_All_L0 : Nat → Ty_expr_All_L0
  | 0 => fun _ _ _ _ _ _ _ _ _ _ _ _ _ _ _ _ _ _ _ _ _ => none
  | n + 1 => Sp.B_expr_All_L0 (Sp.expr_All_L0 n) Sp.expr_Op
theorem E0_expr_All_L0 (p : Par)   : ∀ n, EntOkL (cfg p) 26 0 (P_expr_All_L0 (Sp.expr_All_L0  n) noneL3) := entL_rounds (tab_call (tab_nil _) (E_expr_Op p (ent_none _ _))) (by kernel_rfl) (fun c v γ K => by unfold P_expr_All_L0; split <;> rfl) fun n c v γ K q h => by
  unfold P_expr_All_L0 at h
  split at h
  · exact (e_expr_All_L0 p _ _ _ _ _ _ _ _ _ _ _ _ _ _ _ _ _ _ _ _ _ _ _).trans h
  · cases h
theorem E_expr_All_L0 (p : Par)   (n : Nat) {F : Loop3} (hF : EntOkL (cfg p) 26 0 F) : EntOkL (cfg p) 26 0 (P_expr_All_L0 (Sp.expr_All_L0  n) F) := by
  intro c v γ K q h
  unfold P_expr_All_L0 at h
  split at h
  · exact E0_expr_All_L0 p   n _ _ _ _ _ h
  · exact hF _ _ _ _ _ h
abbrev Ty_expr_All : Type 1 := List (List Dat) → (γ : Type) → (Int → Int → Int → Int → ByteArray → ByteArray → ByteArray → List (List Dat) → Option γ) → Option γ
def P_expr_All (X : Ty_expr_All) (F : Ent3) : Ent3 := fun a s γ K => match a, s with
  | [AVal.dat (Dat.sl v_l)], [] => X v_l γ (fun r0 r1 r2 r3 r4 r5 r6 r7 => K ([(AVal.agg [(Dat.int IntKind.i64 r0, Own.none), (Dat.int IntKind.i64 r1, Own.none), (Dat.int IntKind.i64 r2, Own.none), (Dat.int IntKind.i64 r3, Own.none), (Dat.str r4, Own.none), (Dat.str r5, Own.none), (Dat.str r6, Own.none), (Dat.sl r7, Own.none)], Own.none)], []))
  | a, s => F a s γ K
def T_expr_All (x_value_Bool : Ty_value_Bool) (x_expr_Lit : Ty_expr_Lit) (x_expr_All_L0 : Ty_expr_All_L0) : CallK := (addK (addK noneK 35 (P_value_Bool x_value_Bool none3)) 7 (P_expr_Lit x_expr_Lit none3))
def L_expr_All (x_value_Bool : Ty_value_Bool) (x_expr_Lit : Ty_expr_Lit) (x_expr_All_L0 : Ty_expr_All_L0) : LoopK := (addL noneL 26 0 (P_expr_All_L0 x_expr_All_L0 noneL3))
def Sp.B_expr_All (x_value_Bool : Ty_value_Bool) (x_expr_Lit : Ty_expr_Lit) (x_expr_All_L0 : Ty_expr_All_L0) (v_l : List (List Dat)) (γ : Type) (K : Int → Int → Int → Int → ByteArray → ByteArray → ByteArray → List (List Dat) → Option γ) : Option γ := bif decide (Int.ofNat (List.length v_l) = 0) then x_value_Bool true γ fun (z3 z4 : Int) (z5 : ByteArray) => x_expr_Lit z3 z4 z5 γ fun (z6 z7 z8 z9 : Int) (z10 z11 z12 : ByteArray) (z13 : List (List Dat)) => K z6 z7 z8 z9 z10 z11 z12 z13 else elemAt v_l 0 fun (z14 : List Dat) => bif List.length z14 == 8 then cellAt z14 0 fun (z15 : Dat) => Aev.asInt IntKind.i64 z15 fun (z16 : Int) => cellAt z14 1 fun (z17 : Dat) => Aev.asInt IntKind.i64 z17 fun (z18 : Int) => cellAt z14 2 fun (z19 : Dat) => Aev.asInt IntKind.i64 z19 fun (z20 : Int) => cellAt z14 3 fun (z21 : Dat) => Aev.asInt IntKind.i64 z21 fun (z22 : Int) => cellAt z14 4 fun (z23 : Dat) => asStr z23 fun (z24 : ByteArray) => cellAt z14 5 fun (z25 : Dat) => asStr z25 fun (z26 : ByteArray) => cellAt z14 6 fun (z27 : Dat) => asStr z27 fun (z28 : ByteArray) => cellAt z14 7 fun (z29 : Dat) => asSl z29 fun (z30 : List (List Dat)) => bif decide (1 ≤ Int.ofNat (List.length v_l)) && decide (Int.ofNat (List.length v_l) ≤ Int.ofNat (List.length v_l)) && true && sized v_l 8 then x_expr_All_L0 (List.drop 1 (List.take (Int.toNat (Int.ofNat (List.length v_l))) v_l)) (Int.ofNat (List.length (List.drop 1 (List.take (Int.toNat (Int.ofNat (List.length v_l))) v_l)))) 0 0 0 0 0 (bs []) (bs []) (bs []) [] z16 z18 z20 z22 z24 z26 z28 z30 γ fun (z31 : Ex) (z32 z33 z34 z35 z36 : Int) (z37 z38 z39 : ByteArray) (z40 : List (List Dat)) (z41 z42 z43 z44 : Int) (z45 z46 z47 : ByteArray) (z48 : List (List Dat)) => bif Ex.isExit z31 0 then K z41 z42 z43 z44 z45 z46 z47 z48 else bif Ex.isRet z31 then K z33 z34 z35 z36 z37 z38 z39 z40 else none else none else none
theorem e_expr_All (p : Par) (x_value_Bool : Ty_value_Bool) (x_expr_Lit : Ty_expr_Lit) (x_expr_All_L0 : Ty_expr_All_L0) (v_l : List (List Dat)) (γ : Type) (K : List Ent × Sig → Option γ) : evFK (cfg p) (T_expr_All x_value_Bool x_expr_Lit x_expr_All_L0) (L_expr_All x_value_Bool x_expr_Lit x_expr_All_L0) 26 [AVal.dat (Dat.sl v_l)] [] γ K = Sp.B_expr_All x_value_Bool x_expr_Lit x_expr_All_L0 v_l γ (fun r0 r1 r2 r3 r4 r5 r6 r7 => K ([(AVal.agg [(Dat.int IntKind.i64 r0, Own.none), (Dat.int IntKind.i64 r1, Own.none), (Dat.int IntKind.i64 r2, Own.none), (Dat.int IntKind.i64 r3, Own.none), (Dat.str r4, Own.none), (Dat.str r5, Own.none), (Dat.str r6, Own.none), (Dat.sl r7, Own.none)], Own.none)], [])) := by kernel_rfl
def Sp.expr_All : Ty_expr_All := Sp.B_expr_All Sp.value_Bool Sp.expr_Lit (Sp.expr_All_L0 fuel)
theorem E_expr_All (p : Par) {F : Ent3} (hF : EntOk (cfg p) 26 F) : EntOk (cfg p) 26 (P_expr_All Sp.expr_All F) := by
  intro a s γ K q h
  unfold P_expr_All at h
  split at h
  · exact body_ok (tab_loop (tab_call (tab_call (tab_nil _) (E_value_Bool p (ent_none _ _))) (E_expr_Lit p (ent_none _ _))) (E_expr_All_L0 p fuel (entL_none _ _ _))) rfl ((e_expr_All p _ _ _ _ _ _).trans h)
  · exact hF _ _ _ _ _ h
abbrev Ty_slices_EqualFunc_api_Expr_api_Expr_api_Expr_api_Expr : Type 1 := List (List Dat) → List (List Dat) → (γ : Type) → (Bool → Option γ) → Option γ
def P_slices_EqualFunc_api_Expr_api_Expr_api_Expr_api_Expr (X : Ty_slices_EqualFunc_api_Expr_api_Expr_api_Expr_api_Expr) (F : Ent3) : Ent3 := fun a s γ K => match a, s with
  | [AVal.dat (Dat.sl v_s1), AVal.dat (Dat.sl v_s2), AVal.clo (Fn.func 14) [] []], [] => X v_s1 v_s2 γ (fun r0 => K ([(AVal.dat (Dat.bool r0), Own.none)], []))
  | a, s => F a s γ K
abbrev Ty_expr_Same : Type 1 := Int → Int → Int → Int → ByteArray → ByteArray → ByteArray → List (List Dat) → Int → Int → Int → Int → ByteArray → ByteArray → ByteArray → List (List Dat) → (γ : Type) → (Bool → Option γ) → Option γ
def P_expr_Same (X : Ty_expr_Same) (F : Ent3) : Ent3 := fun a s γ K => match a, s with
  | [AVal.agg [(Dat.int IntKind.i64 v_a0, Own.none), (Dat.int IntKind.i64 v_a1, Own.none), (Dat.int IntKind.i64 v_a2, Own.none), (Dat.int IntKind.i64 v_a3, Own.none), (Dat.str v_a4, Own.none), (Dat.str v_a5, Own.none), (Dat.str v_a6, Own.none), (Dat.sl v_a7, Own.none)], AVal.agg [(Dat.int IntKind.i64 v_b0, Own.none), (Dat.int IntKind.i64 v_b1, Own.none), (Dat.int IntKind.i64 v_b2, Own.none), (Dat.int IntKind.i64 v_b3, Own.none), (Dat.str v_b4, Own.none), (Dat.str v_b5, Own.none), (Dat.str v_b6, Own.none), (Dat.sl v_b7, Own.none)]], [] => X v_a0 v_a1 v_a2 v_a3 v_a4 v_a5 v_a6 v_a7 v_b0 v_b1 v_b2 v_b3 v_b4 v_b5 v_b6 v_b7 γ (fun r0 => K ([(AVal.dat (Dat.bool r0), Own.none)], []))
  | a, s => F a s γ K
abbrev Ty_slices_EqualFunc_api_Expr_api_Expr_api_Expr_api_Expr_L0 : Type 1 := List (List Dat) → List (List Dat) → Int → Bool → Int → (γ : Type) → (Ex → Bool → Int → Option γ) → Option γ
def P_slices_EqualFunc_api_Expr_api_Expr_api_Expr_api_Expr_L0 (X : Ty_slices_EqualFunc_api_Expr_api_Expr_api_Expr_api_Expr_L0) (F : Loop3) : Loop3 := fun a s γ K => match a, s with
  | [AVal.dat (Dat.sl v_s2), AVal.clo (Fn.func 14) [] [], AVal.dat (Dat.sl v_), AVal.dat (Dat.int IntKind.i64 v__1)], ([AVal.dat (Dat.bool v__2), AVal.dat (Dat.int IntKind.i64 v__3)], []) => X v_s2 v_ v__1 v__2 v__3 γ (fun e x0 x1 => K (e, ([AVal.dat (Dat.bool x0), AVal.dat (Dat.int IntKind.i64 x1)], [])))
  | a, s => F a s γ K
def T_slices_EqualFunc_api_Expr_api_Expr_api_Expr_api_Expr_L0 (x_expr_Same : Ty_expr_Same) : CallK := (addK noneK 14 (P_expr_Same x_expr_Same none3))
def L_slices_EqualFunc_api_Expr_api_Expr_api_Expr_api_Expr_L0 (x_expr_Same : Ty_expr_Same) : LoopK := noneL
def Sp.B_slices_EqualFunc_api_Expr_api_Expr_api_Expr_api_Expr_L0 (x_slices_EqualFunc_api_Expr_api_Expr_api_Expr_api_Expr_L0 : Ty_slices_EqualFunc_api_Expr_api_Expr_api_Expr_api_Expr_L0) (x_expr_Same : Ty_expr_Same) (v_s2 : List (List Dat)) (v_ : List (List Dat)) (v__1 : Int) (v__2 : Bool) (v__3 : Int) (γ : Type) (K : Ex → Bool → Int → Option γ) : Option γ := bif decide (v__3 < v__1) then elemAt v_ v__3 fun (z7 : List Dat) => bif List.length z7 == 8 then cellAt z7 0 fun (z8 : Dat) => Aev.asInt IntKind.i64 z8 fun (z9 : Int) => cellAt z7 1 fun (z10 : Dat) => Aev.asInt IntKind.i64 z10 fun (z11 : Int) => cellAt z7 2 fun (z12 : Dat) => Aev.asInt IntKind.i64 z12 fun (z13 : Int) => cellAt z7 3 fun (z14 : Dat) => Aev.asInt IntKind.i64 z14 fun (z15 : Int) => cellAt z7 4 fun (z16 : Dat) => asStr z16 fun (z17 : ByteArray) => cellAt z7 5 fun (z18 : Dat) => asStr z18 fun (z19 : ByteArray) => cellAt z7 6 fun (z20 : Dat) => asStr z20 fun (z21 : ByteArray) => cellAt z7 7 fun (z22 : Dat) => asSl z22 fun (z23 : List (List Dat)) => elemAt v_s2 v__3 fun (z24 : List Dat) => bif List.length z24 == 8 then cellAt z24 0 fun (z25 : Dat) => Aev.asInt IntKind.i64 z25 fun (z26 : Int) => cellAt z24 1 fun (z27 : Dat) => Aev.asInt IntKind.i64 z27 fun (z28 : Int) => cellAt z24 2 fun (z29 : Dat) => Aev.asInt IntKind.i64 z29 fun (z30 : Int) => cellAt z24 3 fun (z31 : Dat) => Aev.asInt IntKind.i64 z31 fun (z32 : Int) => cellAt z24 4 fun (z33 : Dat) => asStr z33 fun (z34 : ByteArray) => cellAt z24 5 fun (z35 : Dat) => asStr z35 fun (z36 : ByteArray) => cellAt z24 6 fun (z37 : Dat) => asStr z37 fun (z38 : ByteArray) => cellAt z24 7 fun (z39 : Dat) => asSl z39 fun (z40 : List (List Dat)) => x_expr_Same z9 z11 z13 z15 z17 z19 z21 z23 z26 z28 z30 z32 z34 z36 z38 z40 γ fun (z41 : Bool) => bif !z41 then K Ex.ret false v__3 else x_slices_EqualFunc_api_Expr_api_Expr_api_Expr_api_Expr_L0 v_s2 v_ v__1 v__2 (IntKind.wrap IntKind.i64 (v__3 + 1)) γ K else none else none else K (Ex.exit 0) v__2 v__3
theorem e_slices_EqualFunc_api_Expr_api_Expr_api_Expr_api_Expr_L0 (p : Par) (x_slices_EqualFunc_api_Expr_api_Expr_api_Expr_api_Expr_L0 : Ty_slices_EqualFunc_api_Expr_api_Expr_api_Expr_api_Expr_L0) (x_expr_Same : Ty_expr_Same) (v_s2 : List (List Dat)) (v_ : List (List Dat)) (v__1 : Int) (v__2 : Bool) (v__3 : Int) (γ : Type) (K : Ex × Vars → Option γ) : roundK (cfg p) (T_slices_EqualFunc_api_Expr_api_Expr_api_Expr_api_Expr_L0 x_expr_Same) (L_slices_EqualFunc_api_Expr_api_Expr_api_Expr_api_Expr_L0 x_expr_Same) 29 0 [AVal.dat (Dat.sl v_s2), AVal.clo (Fn.func 14) [] [], AVal.dat (Dat.sl v_), AVal.dat (Dat.int IntKind.i64 v__1)] ([AVal.dat (Dat.bool v__2), AVal.dat (Dat.int IntKind.i64 v__3)], []) γ (contL (fun v => P_slices_EqualFunc_api_Expr_api_Expr_api_Expr_api_Expr_L0 x_slices_EqualFunc_api_Expr_api_Expr_api_Expr_api_Expr_L0 noneL3 [AVal.dat (Dat.sl v_s2), AVal.clo (Fn.func 14) [] [], AVal.dat (Dat.sl v_), AVal.dat (Dat.int IntKind.i64 v__1)] v γ K) K) = Sp.B_slices_EqualFunc_api_Expr_api_Expr_api_Expr_api_Expr_L0 x_slices_EqualFunc_api_Expr_api_Expr_api_Expr_api_Expr_L0 x_expr_Same v_s2 v_ v__1 v__2 v__3 γ (fun e x0 x1 => K (e, ([AVal.dat (Dat.bool x0), AVal.dat (Dat.int IntKind.i64 x1)], []))) := by kernel_rfl
def T_slices_EqualFunc_api_Expr_api_Expr_api_Expr_api_Expr (x_slices_EqualFunc_api_Expr_api_Expr_api_Expr_api_Expr_L0 : Ty_slices_EqualFunc_api_Expr_api_Expr_api_Expr_api_Expr_L0) : CallK := noneK
def L_slices_EqualFunc_api_Expr_api_Expr_api_Expr_api_Expr (x_slices_EqualFunc_api_Expr_api_Expr_api_Expr_api_Expr_L0 : Ty_slices_EqualFunc_api_Expr_api_Expr_api_Expr_api_Expr_L0) : LoopK := (addL noneL 29 0 (P_slices_EqualFunc_api_Expr_api_Expr_api_Expr_api_Expr_L0 x_slices_EqualFunc_api_Expr_api_Expr_api_Expr_api_Expr_L0 noneL3))
def Sp.B_slices_EqualFunc_api_Expr_api_Expr_api_Expr_api_Expr (x_slices_EqualFunc_api_Expr_api_Expr_api_Expr_api_Expr_L0 : Ty_slices_EqualFunc_api_Expr_api_Expr_api_Expr_api_Expr_L0) (v_s1 : List (List Dat)) (v_s2 : List (List Dat)) (γ : Type) (K : Bool → Option γ) : Option γ := bif !decide (Int.ofNat (List.length v_s1) = Int.ofNat (List.length v_s2)) then K false else x_slices_EqualFunc_api_Expr_api_Expr_api_Expr_api_Expr_L0 v_s2 v_s1 (Int.ofNat (List.length v_s1)) false 0 γ fun (z4 : Ex) (z5 : Bool) (z6 : Int) => bif Ex.isExit z4 0 then K true else bif Ex.isRet z4 then K z5 else none
theorem e_slices_EqualFunc_api_Expr_api_Expr_api_Expr_api_Expr (p : Par) (x_slices_EqualFunc_api_Expr_api_Expr_api_Expr_api_Expr_L0 : Ty_slices_EqualFunc_api_Expr_api_Expr_api_Expr_api_Expr_L0) (v_s1 : List (List Dat)) (v_s2 : List (List Dat)) (γ : Type) (K : List Ent × Sig → Option γ) : evFK (cfg p) (T_slices_EqualFunc_api_Expr_api_Expr_api_Expr_api_Expr x_slices_EqualFunc_api_Expr_api_Expr_api_Expr_api_Expr_L0) (L_slices_EqualFunc_api_Expr_api_Expr_api_Expr_api_Expr x_slices_EqualFunc_api_Expr_api_Expr_api_Expr_api_Expr_L0) 29 [AVal.dat (Dat.sl v_s1), AVal.dat (Dat.sl v_s2), AVal.clo (Fn.func 14) [] []] [] γ K = Sp.B_slices_EqualFunc_api_Expr_api_Expr_api_Expr_api_Expr x_slices_EqualFunc_api_Expr_api_Expr_api_Expr_api_Expr_L0 v_s1 v_s2 γ (fun r0 => K ([(AVal.dat (Dat.bool r0), Own.none)], [])) := by kernel_rfl
def T_expr_Same (x_slices_EqualFunc_api_Expr_api_Expr_api_Expr_api_Expr : Ty_slices_EqualFunc_api_Expr_api_Expr_api_Expr_api_Expr) : CallK := (addK noneK 29 (P_slices_EqualFunc_api_Expr_api_Expr_api_Expr_api_Expr x_slices_EqualFunc_api_Expr_api_Expr_api_Expr_api_Expr none3))
def L_expr_Same (x_slices_EqualFunc_api_Expr_api_Expr_api_Expr_api_Expr : Ty_slices_EqualFunc_api_Expr_api_Expr_api_Expr_api_Expr) : LoopK := noneL
def Sp.B_expr_Same (x_slices_EqualFunc_api_Expr_api_Expr_api_Expr_api_Expr : Ty_slices_EqualFunc_api_Expr_api_Expr_api_Expr_api_Expr) (v_a0 : Int) (v_a1 : Int) (v_a2 : Int) (v_a3 : Int) (v_a4 : ByteArray) (v_a5 : ByteArray) (v_a6 : ByteArray) (v_a7 : List (List Dat)) (v_b0 : Int) (v_b1 : Int) (v_b2 : Int) (v_b3 : Int) (v_b4 : ByteArray) (v_b5 : ByteArray) (v_b6 : ByteArray) (v_b7 : List (List Dat)) (γ : Type) (K : Bool → Option γ) : Option γ := bif decide (v_a0 = v_b0) then bif decide (v_a1 = v_b1) then bif decide (v_a2 = v_b2) && (decide (v_a3 = v_b3) && (decide (v_a4 = v_b4) && true)) then bif decide (v_a5 = v_b5) then bif decide (v_a6 = v_b6) then x_slices_EqualFunc_api_Expr_api_Expr_api_Expr_api_Expr v_a7 v_b7 γ fun (z18 : Bool) => K z18 else K false else K false else K false else K false else K false
theorem e_expr_Same (p : Par) (x_slices_EqualFunc_api_Expr_api_Expr_api_Expr_api_Expr : Ty_slices_EqualFunc_api_Expr_api_Expr_api_Expr_api_Expr) (v_a0 : Int) (v_a1 : Int) (v_a2 : Int) (v_a3 : Int) (v_a4 : ByteArray) (v_a5 : ByteArray) (v_a6 : ByteArray) (v_a7 : List (List Dat)) (v_b0 : Int) (v_b1 : Int) (v_b2 : Int) (v_b3 : Int) (v_b4 : ByteArray) (v_b5 : ByteArray) (v_b6 : ByteArray) (v_b7 : List (List Dat)) (γ : Type) (K : List Ent × Sig → Option γ) : evFK (cfg p) (T_expr_Same x_slices_EqualFunc_api_Expr_api_Expr_api_Expr_api_Expr) (L_expr_Same x_slices_EqualFunc_api_Expr_api_Expr_api_Expr_api_Expr) 14 [AVal.agg [(Dat.int IntKind.i64 v_a0, Own.none), (Dat.int IntKind.i64 v_a1, Own.none), (Dat.int IntKind.i64 v_a2, Own.none), (Dat.int IntKind.i64 v_a3, Own.none), (Dat.str v_a4, Own.none), (Dat.str v_a5, Own.none), (Dat.str v_a6, Own.none), (Dat.sl v_a7, Own.none)], AVal.agg [(Dat.int IntKind.i64 v_b0, Own.none), (Dat.int IntKind.i64 v_b1, Own.none), (Dat.int IntKind.i64 v_b2, Own.none), (Dat.int IntKind.i64 v_b3, Own.none), (Dat.str v_b4, Own.none), (Dat.str v_b5, Own.none), (Dat.str v_b6, Own.none), (Dat.sl v_b7, Own.none)]] [] γ K = Sp.B_expr_Same x_slices_EqualFunc_api_Expr_api_Expr_api_Expr_api_Expr v_a0 v_a1 v_a2 v_a3 v_a4 v_a5 v_a6 v_a7 v_b0 v_b1 v_b2 v_b3 v_b4 v_b5 v_b6 v_b7 γ (fun r0 => K ([(AVal.dat (Dat.bool r0), Own.none)], [])) := by kernel_rfl
def Sp.slices_EqualFunc_api_Expr_api_Expr_api_Expr_api_Expr_L0 (R_slices_EqualFunc_api_Expr_api_Expr_api_Expr_api_Expr : Ty_slices_EqualFunc_api_Expr_api_Expr_api_Expr_api_Expr) (R_expr_Same : Ty_expr_Same) : Nat → Ty_slices_EqualFunc_api_Expr_api_Expr_api_Expr_api_Expr_L0
  | 0 => fun _ _ _ _ _ _ _ => none
  | n + 1 => Sp.B_slices_EqualFunc_api_Expr_api_Expr_api_Expr_api_Expr_L0 (Sp.slices_EqualFunc_api_Expr_api_Expr_api_Expr_api_Expr_L0 R_slices_EqualFunc_api_Expr_api_Expr_api_Expr_api_Expr R_expr_Same n) R_expr_Same
theorem E0_slices_EqualFunc_api_Expr_api_Expr_api_Expr_api_Expr_L0 (p : Par) (R_slices_EqualFunc_api_Expr_api_Expr_api_Expr_api_Expr : Ty_slices_EqualFunc_api_Expr_api_Expr_api_Expr_api_Expr) (R_expr_Same : Ty_expr_Same) (h_slices_EqualFunc_api_Expr_api_Expr_api_Expr_api_Expr : ∀ {F : Ent3}, EntOk (cfg p) 29 F → EntOk (cfg p) 29 (P_slices_EqualFunc_api_Expr_api_Expr_api_Expr_api_Expr R_slices_EqualFunc_api_Expr_api_Expr_api_Expr_api_Expr F)) (h_expr_Same : ∀ {F : Ent3}, EntOk (cfg p) 14 F → EntOk (cfg p) 14 (P_expr_Same R_expr_Same F)) : ∀ n, EntOkL (cfg p) 29 0 (P_slices_EqualFunc_api_Expr_api_Expr_api_Expr_api_Expr_L0 (Sp.slices_EqualFunc_api_Expr_api_Expr_api_Expr_api_Expr_L0 R_slices_EqualFunc_api_Expr_api_Expr_api_Expr_api_Expr R_expr_Same n) noneL3) := entL_rounds (tab_call (tab_nil _) (h_expr_Same (ent_none _ _))) (by kernel_rfl) (fun c v γ K => by unfold P_slices_EqualFunc_api_Expr_api_Expr_api_Expr_api_Expr_L0; split <;> rfl) fun n c v γ K q h => by
  unfold P_slices_EqualFunc_api_Expr_api_Expr_api_Expr_api_Expr_L0 at h
  split at h
  · exact (e_slices_EqualFunc_api_Expr_api_Expr_api_Expr_api_Expr_L0 p _ _ _ _ _ _ _ _ _).trans h
  · cases h
theorem E_slices_EqualFunc_api_Expr_api_Expr_api_Expr_api_Expr_L0 (p : Par) (R_slices_EqualFunc_api_Expr_api_Expr_api_Expr_api_Expr : Ty_slices_EqualFunc_api_Expr_api_Expr_api_Expr_api_Expr) (R_expr_Same : Ty_expr_Same) (h_slices_EqualFunc_api_Expr_api_Expr_api_Expr_api_Expr : ∀ {F : Ent3}, EntOk (cfg p) 29 F → EntOk (cfg p) 29 (P_slices_EqualFunc_api_Expr_api_Expr_api_Expr_api_Expr R_slices_EqualFunc_api_Expr_api_Expr_api_Expr_api_Expr F)) (h_expr_Same : ∀ {F : Ent3}, EntOk (cfg p) 14 F → EntOk (cfg p) 14 (P_expr_Same R_expr_Same F)) (n : Nat) {F : Loop3} (hF : EntOkL (cfg p) 29 0 F) : EntOkL (cfg p) 29 0 (P_slices_EqualFunc_api_Expr_api_Expr_api_Expr_api_Expr_L0 (Sp.slices_EqualFunc_api_Expr_api_Expr_api_Expr_api_Expr_L0 R_slices_EqualFunc_api_Expr_api_Expr_api_Expr_api_Expr R_expr_Same n) F) := by
  intro c v γ K q h
  unfold P_slices_EqualFunc_api_Expr_api_Expr_api_Expr_api_Expr_L0 at h
  split at h
  · exact E0_slices_EqualFunc_api_Expr_api_Expr_api_Expr_api_Expr_L0 p R_slices_EqualFunc_api_Expr_api_Expr_api_Expr_api_Expr R_expr_Same h_slices_EqualFunc_api_Expr_api_Expr_api_Expr_api_Expr h_expr_Same n _ _ _ _ _ h
  · exact hF _ _ _ _ _ h
mutual
def Sp.slices_EqualFunc_api_Expr_api_Expr_api_Expr_api_Expr : Nat → Ty_slices_EqualFunc_api_Expr_api_Expr_api_Expr_api_Expr
  | 0 => fun _ _ _ _ => none
  | n + 1 => Sp.B_slices_EqualFunc_api_Expr_api_Expr_api_Expr_api_Expr (Sp.slices_EqualFunc_api_Expr_api_Expr_api_Expr_api_Expr_L0 (Sp.slices_EqualFunc_api_Expr_api_Expr_api_Expr_api_Expr n) (Sp.expr_Same n) fuel)
def Sp.expr_Same : Nat → Ty_expr_Same
  | 0 => fun _ _ _ _ _ _ _ _ _ _ _ _ _ _ _ _ _ _ => none
  | n + 1 => Sp.B_expr_Same (Sp.slices_EqualFunc_api_Expr_api_Expr_api_Expr_api_Expr n)
end
theorem G51_ok (p : Par) (n : Nat) : (∀ {F : Ent3}, EntOk (cfg p) 29 F → EntOk (cfg p) 29 (P_slices_EqualFunc_api_Expr_api_Expr_api_Expr_api_Expr (Sp.slices_EqualFunc_api_Expr_api_Expr_api_Expr_api_Expr n) F)) ∧ (∀ {F : Ent3}, EntOk (cfg p) 14 F → EntOk (cfg p) 14 (P_expr_Same (Sp.expr_Same n) F)) := by
  induction n with
  | zero =>
    refine ⟨?_, ?_⟩
    · intro F hF a s γ K q h
      unfold P_slices_EqualFunc_api_Expr_api_Expr_api_Expr_api_Expr at h
      split at h
      · cases h
      · exact hF _ _ _ _ _ h
    · intro F hF a s γ K q h
      unfold P_expr_Same at h
      split at h
      · cases h
      · exact hF _ _ _ _ _ h
  | succ n ih =>
    refine ⟨?_, ?_⟩
    · intro F hF a s γ K q h
      unfold P_slices_EqualFunc_api_Expr_api_Expr_api_Expr_api_Expr at h
      split at h
      · exact body_ok (tab_loop (tab_nil _) (E_slices_EqualFunc_api_Expr_api_Expr_api_Expr_api_Expr_L0 p (Sp.slices_EqualFunc_api_Expr_api_Expr_api_Expr_api_Expr n) (Sp.expr_Same n) ih.1 ih.2 fuel (entL_none _ _ _))) rfl ((e_slices_EqualFunc_api_Expr_api_Expr_api_Expr_api_Expr p _ _ _ _ _).trans h)
      · exact hF _ _ _ _ _ h
    · intro F hF a s γ K q h
      unfold P_expr_Same at h
      split at h
      · exact body_ok (tab_call (tab_nil _) (ih.1 (ent_none _ _))) rfl ((e_expr_Same p _ _ _ _ _ _ _ _ _ _ _ _ _ _ _ _ _ _ _).trans h)
      · exact hF _ _ _ _ _ h
theorem E_slices_EqualFunc_api_Expr_api_Expr_api_Expr_api_Expr (p : Par) (n : Nat) {F : Ent3} (hF : EntOk (cfg p) 29 F) : EntOk (cfg p) 29 (P_slices_EqualFunc_api_Expr_api_Expr_api_Expr_api_Expr (Sp.slices_EqualFunc_api_Expr_api_Expr_api_Expr_api_Expr n) F) := (G51_ok p n).1 hF
theorem E_expr_Same (p : Par) (n : Nat) {F : Ent3} (hF : EntOk (cfg p) 14 F) : EntOk (cfg p) 14 (P_expr_Same (Sp.expr_Same n) F) := (G51_ok p n).2 hF
abbrev Ty_expr_Agg : Type 1 := Int → List (List Dat) → (γ : Type) → (Int → Int → Int → Int → ByteArray → ByteArray → ByteArray → List (List Dat) → Option γ) → Option γ
def P_expr_Agg (X : Ty_expr_Agg) (F : Ent3) : Ent3 := fun a s γ K => match a, s with
  | [AVal.dat (Dat.int IntKind.i64 v_n), AVal.dat (Dat.sl v_l)], [] => X v_n v_l γ (fun r0 r1 r2 r3 r4 r5 r6 r7 => K ([(AVal.agg [(Dat.int IntKind.i64 r0, Own.none), (Dat.int IntKind.i64 r1, Own.none), (Dat.int IntKind.i64 r2, Own.none), (Dat.int IntKind.i64 r3, Own.none), (Dat.str r4, Own.none), (Dat.str r5, Own.none), (Dat.str r6, Own.none), (Dat.sl r7, Own.none)], Own.none)], []))
  | a, s => F a s γ K
def T_expr_Agg (x_slices_Clone_api_Expr_api_Expr : Ty_slices_Clone_api_Expr_api_Expr) : CallK := (addK noneK 28 (P_slices_Clone_api_Expr_api_Expr x_slices_Clone_api_Expr_api_Expr none3))
def L_expr_Agg (x_slices_Clone_api_Expr_api_Expr : Ty_slices_Clone_api_Expr_api_Expr) : LoopK := noneL
def Sp.B_expr_Agg (x_slices_Clone_api_Expr_api_Expr : Ty_slices_Clone_api_Expr_api_Expr) (v_n : Int) (v_l : List (List Dat)) (γ : Type) (K : Int → Int → Int → Int → ByteArray → ByteArray → ByteArray → List (List Dat) → Option γ) : Option γ := x_slices_Clone_api_Expr_api_Expr v_l γ fun (z4 : List (List Dat)) => K 4 v_n 0 0 (bs []) (bs []) (bs []) z4
theorem e_expr_Agg (p : Par) (x_slices_Clone_api_Expr_api_Expr : Ty_slices_Clone_api_Expr_api_Expr) (v_n : Int) (v_l : List (List Dat)) (γ : Type) (K : List Ent × Sig → Option γ) : evFK (cfg p) (T_expr_Agg x_slices_Clone_api_Expr_api_Expr) (L_expr_Agg x_slices_Clone_api_Expr_api_Expr) 13 [AVal.dat (Dat.int IntKind.i64 v_n), AVal.dat (Dat.sl v_l)] [] γ K = Sp.B_expr_Agg x_slices_Clone_api_Expr_api_Expr v_n v_l γ (fun r0 r1 r2 r3 r4 r5 r6 r7 => K ([(AVal.agg [(Dat.int IntKind.i64 r0, Own.none), (Dat.int IntKind.i64 r1, Own.none), (Dat.int IntKind.i64 r2, Own.none), (Dat.int IntKind.i64 r3, Own.none), (Dat.str r4, Own.none), (Dat.str r5, Own.none), (Dat.str r6, Own.none), (Dat.sl r7, Own.none)], Own.none)], [])) := by kernel_rfl
def Sp.expr_Agg : Ty_expr_Agg := Sp.B_expr_Agg Sp.slices_Clone_api_Expr_api_Expr
theorem E_expr_Agg (p : Par) {F : Ent3} (hF : EntOk (cfg p) 13 F) : EntOk (cfg p) 13 (P_expr_Agg Sp.expr_Agg F) := by
  intro a s γ K q h
  unfold P_expr_Agg at h
  split at h
  · exact body_ok (tab_call (tab_nil _) (E_slices_Clone_api_Expr_api_Expr p (ent_none _ _))) rfl ((e_expr_Agg p _ _ _ _ _).trans h)
  · exact hF _ _ _ _ _ h
abbrev Ty_expr_Aggs : Type 1 := Int → Int → Int → Int → ByteArray → ByteArray → ByteArray → List (List Dat) → (γ : Type) → (List (List Dat) → Option γ) → Option γ
def P_expr_Aggs (X : Ty_expr_Aggs) (F : Ent3) : Ent3 := fun a s γ K => match a, s with
  | [AVal.agg [(Dat.int IntKind.i64 v_e0, Own.none), (Dat.int IntKind.i64 v_e1, Own.none), (Dat.int IntKind.i64 v_e2, Own.none), (Dat.int IntKind.i64 v_e3, Own.none), (Dat.str v_e4, Own.none), (Dat.str v_e5, Own.none), (Dat.str v_e6, Own.none), (Dat.sl v_e7, Own.none)]], [] => X v_e0 v_e1 v_e2 v_e3 v_e4 v_e5 v_e6 v_e7 γ (fun r0 => K ([(AVal.dat (Dat.sl r0), Own.none)], []))
  | a, s => F a s γ K
def T_expr_Aggs (x_expr_kinds : Ty_expr_kinds) : CallK := (addK noneK 32 (P_expr_kinds x_expr_kinds none3))
def L_expr_Aggs (x_expr_kinds : Ty_expr_kinds) : LoopK := noneL
def Sp.B_expr_Aggs (x_expr_kinds : Ty_expr_kinds) (v_e0 : Int) (v_e1 : Int) (v_e2 : Int) (v_e3 : Int) (v_e4 : ByteArray) (v_e5 : ByteArray) (v_e6 : ByteArray) (v_e7 : List (List Dat)) (γ : Type) (K : List (List Dat) → Option γ) : Option γ := x_expr_kinds v_e0 v_e1 v_e2 v_e3 v_e4 v_e5 v_e6 v_e7 4 γ fun (z10 : List (List Dat)) => K z10
theorem e_expr_Aggs (p : Par) (x_expr_kinds : Ty_expr_kinds) (v_e0 : Int) (v_e1 : Int) (v_e2 : Int) (v_e3 : Int) (v_e4 : ByteArray) (v_e5 : ByteArray) (v_e6 : ByteArray) (v_e7 : List (List Dat)) (γ : Type) (K : List Ent × Sig → Option γ) : evFK (cfg p) (T_expr_Aggs x_expr_kinds) (L_expr_Aggs x_expr_kinds) 27 [AVal.agg [(Dat.int IntKind.i64 v_e0, Own.none), (Dat.int IntKind.i64 v_e1, Own.none), (Dat.int IntKind.i64 v_e2, Own.none), (Dat.int IntKind.i64 v_e3, Own.none), (Dat.str v_e4, Own.none), (Dat.str v_e5, Own.none), (Dat.str v_e6, Own.none), (Dat.sl v_e7, Own.none)]] [] γ K = Sp.B_expr_Aggs x_expr_kinds v_e0 v_e1 v_e2 v_e3 v_e4 v_e5 v_e6 v_e7 γ (fun r0 => K ([(AVal.dat (Dat.sl r0), Own.none)], [])) := by kernel_rfl
def Sp.expr_Aggs : Ty_expr_Aggs := Sp.B_expr_Aggs Sp.expr_kinds
theorem E_expr_Aggs (p : Par) {F : Ent3} (hF : EntOk (cfg p) 27 F) : EntOk (cfg p) 27 (P_expr_Aggs Sp.expr_Aggs F) := by
  intro a s γ K q h
  unfold P_expr_Aggs at h
  split at h
  · exact body_ok (tab_call (tab_nil _) (E_expr_kinds p (ent_none _ _))) rfl ((e_expr_Aggs p _ _ _ _ _ _ _ _ _ _ _).trans h)
  · exact hF _ _ _ _ _ h
abbrev Ty_law10_lives : Type 1 := (γ : Type) → (Bool → Option γ) → Option γ
def P_law10_lives (X : Ty_law10_lives) (F : Ent3) : Ent3 := fun a s γ K => match a, s with
  | [], [] => X  γ (fun r0 => K ([(AVal.dat (Dat.bool r0), Own.none)], []))
  | a, s => F a s γ K
def T_law10_lives (x_expr_Column : Ty_expr_Column) (x_ref01_Int : Ty_ref01_Int) (x_expr_Lit : Ty_expr_Lit) (x_expr_Op : Ty_expr_Op) (x_expr_Check : Ty_expr_Check) (x_expr_Size : Ty_expr_Size) (x_expr_Depth : Ty_expr_Depth) (x_expr_Show : Ty_expr_Show) (x_expr_Columns : Ty_expr_Columns) (x_expr_Safe : Ty_expr_Safe) (x_expr_Parts : Ty_expr_Parts) (x_expr_All : Ty_expr_All) (x_expr_Same : Ty_expr_Same) (x_expr_Agg : Ty_expr_Agg) (x_expr_Aggs : Ty_expr_Aggs) (x_expr_Arity : Ty_expr_Arity) : CallK := (addK (addK (addK (addK (addK (addK (addK (addK (addK (addK (addK (addK (addK (addK (addK (addK noneK 9 (P_expr_Column x_expr_Column none3)) 18 (P_ref01_Int x_ref01_Int none3)) 7 (P_expr_Lit x_expr_Lit none3)) 11 (P_expr_Op x_expr_Op none3)) 19 (P_expr_Check x_expr_Check none3)) 20 (P_expr_Size x_expr_Size none3)) 21 (P_expr_Depth x_expr_Depth none3)) 22 (P_expr_Show x_expr_Show none3)) 23 (P_expr_Columns x_expr_Columns none3)) 24 (P_expr_Safe x_expr_Safe none3)) 25 (P_expr_Parts x_expr_Parts none3)) 26 (P_expr_All x_expr_All none3)) 14 (P_expr_Same x_expr_Same none3)) 13 (P_expr_Agg x_expr_Agg none3)) 27 (P_expr_Aggs x_expr_Aggs none3)) 15 (P_expr_Arity x_expr_Arity none3))
def L_law10_lives (x_expr_Column : Ty_expr_Column) (x_ref01_Int : Ty_ref01_Int) (x_expr_Lit : Ty_expr_Lit) (x_expr_Op : Ty_expr_Op) (x_expr_Check : Ty_expr_Check) (x_expr_Size : Ty_expr_Size) (x_expr_Depth : Ty_expr_Depth) (x_expr_Show : Ty_expr_Show) (x_expr_Columns : Ty_expr_Columns) (x_expr_Safe : Ty_expr_Safe) (x_expr_Parts : Ty_expr_Parts) (x_expr_All : Ty_expr_All) (x_expr_Same : Ty_expr_Same) (x_expr_Agg : Ty_expr_Agg) (x_expr_Aggs : Ty_expr_Aggs) (x_expr_Arity : Ty_expr_Arity) : LoopK := noneL
def Sp.B_law10_lives (x_expr_Column : Ty_expr_Column) (x_ref01_Int : Ty_ref01_Int) (x_expr_Lit : Ty_expr_Lit) (x_expr_Op : Ty_expr_Op) (x_expr_Check : Ty_expr_Check) (x_expr_Size : Ty_expr_Size) (x_expr_Depth : Ty_expr_Depth) (x_expr_Show : Ty_expr_Show) (x_expr_Columns : Ty_expr_Columns) (x_expr_Safe : Ty_expr_Safe) (x_expr_Parts : Ty_expr_Parts) (x_expr_All : Ty_expr_All) (x_expr_Same : Ty_expr_Same) (x_expr_Agg : Ty_expr_Agg) (x_expr_Aggs : Ty_expr_Aggs) (x_expr_Arity : Ty_expr_Arity)  (γ : Type) (K : Bool → Option γ) : Option γ := x_expr_Column (bs []) (bs [97]) γ fun (z2 z3 z4 z5 : Int) (z6 z7 z8 : ByteArray) (z9 : List (List Dat)) => x_ref01_Int 1 γ fun (z10 z11 : Int) (z12 : ByteArray) => x_expr_Lit z10 z11 z12 γ fun (z13 z14 z15 z16 : Int) (z17 z18 z19 : ByteArray) (z20 : List (List Dat)) => x_expr_Op 10 [[Dat.int IntKind.i64 z2, Dat.int IntKind.i64 z3, Dat.int IntKind.i64 z4, Dat.int IntKind.i64 z5, Dat.str z6, Dat.str z7, Dat.str z8, Dat.sl z9], [Dat.int IntKind.i64 z13, Dat.int IntKind.i64 z14, Dat.int IntKind.i64 z15, Dat.int IntKind.i64 z16, Dat.str z17, Dat.str z18, Dat.str z19, Dat.sl z20]] γ fun (z21 z22 z23 z24 : Int) (z25 z26 z27 : ByteArray) (z28 : List (List Dat)) => x_expr_Column (bs [116]) (bs [98]) γ fun (z29 z30 z31 z32 : Int) (z33 z34 z35 : ByteArray) (z36 : List (List Dat)) => x_expr_Op 6 [[Dat.int IntKind.i64 z21, Dat.int IntKind.i64 z22, Dat.int IntKind.i64 z23, Dat.int IntKind.i64 z24, Dat.str z25, Dat.str z26, Dat.str z27, Dat.sl z28], [Dat.int IntKind.i64 z29, Dat.int IntKind.i64 z30, Dat.int IntKind.i64 z31, Dat.int IntKind.i64 z32, Dat.str z33, Dat.str z34, Dat.str z35, Dat.sl z36]] γ fun (z37 z38 z39 z40 : Int) (z41 z42 z43 : ByteArray) (z44 : List (List Dat)) => x_expr_Op 16 [[Dat.int IntKind.i64 z2, Dat.int IntKind.i64 z3, Dat.int IntKind.i64 z4, Dat.int IntKind.i64 z5, Dat.str z6, Dat.str z7, Dat.str z8, Dat.sl z9]] γ fun (z45 z46 z47 z48 : Int) (z49 z50 z51 : ByteArray) (z52 : List (List Dat)) => x_expr_Op 2 [[Dat.int IntKind.i64 z37, Dat.int IntKind.i64 z38, Dat.int IntKind.i64 z39, Dat.int IntKind.i64 z40, Dat.str z41, Dat.str z42, Dat.str z43, Dat.sl z44], [Dat.int IntKind.i64 z45, Dat.int IntKind.i64 z46, Dat.int IntKind.i64 z47, Dat.int IntKind.i64 z48, Dat.str z49, Dat.str z50, Dat.str z51, Dat.sl z52]] γ fun (z53 z54 z55 z56 : Int) (z57 z58 z59 : ByteArray) (z60 : List (List Dat)) => x_expr_Check z53 z54 z55 z56 z57 z58 z59 z60 γ fun (z61 : Int) => bif decide (z61 = 0) then x_expr_Size z53 z54 z55 z56 z57 z58 z59 z60 γ fun (z62 : Int) => bif decide (z62 = 8) then x_expr_Depth z53 z54 z55 z56 z57 z58 z59 z60 γ fun (z63 : Int) => bif decide (z63 = 4) then x_expr_Show z53 z54 z55 z56 z57 z58 z59 z60 γ fun (z64 : ByteArray) => bif decide (z64 = bs [40, 40, 40, 97, 32, 43, 32, 49, 41, 32, 60, 32, 116, 46, 98, 41, 32, 65, 78, 68, 32, 40, 97, 32, 73, 83, 32, 78, 85, 76, 76, 41, 41]) then x_expr_Columns z53 z54 z55 z56 z57 z58 z59 z60 γ fun (z65 : List (List Dat)) => bif decide (Int.ofNat (List.length z65) = 3) then x_expr_Safe z53 z54 z55 z56 z57 z58 z59 z60 γ fun (z66 : Bool) => bif !z66 then x_expr_Parts z53 z54 z55 z56 z57 z58 z59 z60 γ fun (z67 : List (List Dat)) => bif decide (Int.ofNat (List.length z67) = 2) then x_expr_Parts z53 z54 z55 z56 z57 z58 z59 z60 γ fun (z68 : List (List Dat)) => x_expr_All z68 γ fun (z69 z70 z71 z72 : Int) (z73 z74 z75 : ByteArray) (z76 : List (List Dat)) => x_expr_Same z69 z70 z71 z72 z73 z74 z75 z76 z53 z54 z55 z56 z57 z58 z59 z60 γ fun (z77 : Bool) => bif z77 then x_expr_Agg 1 [] γ fun (z78 z79 z80 z81 : Int) (z82 z83 z84 : ByteArray) (z85 : List (List Dat)) => x_expr_Show z78 z79 z80 z81 z82 z83 z84 z85 γ fun (z86 : ByteArray) => bif decide (z86 = bs [67, 79, 85, 78, 84, 40, 42, 41]) then x_expr_Agg 3 [[Dat.int IntKind.i64 z2, Dat.int IntKind.i64 z3, Dat.int IntKind.i64 z4, Dat.int IntKind.i64 z5, Dat.str z6, Dat.str z7, Dat.str z8, Dat.sl z9]] γ fun (z87 z88 z89 z90 : Int) (z91 z92 z93 : ByteArray) (z94 : List (List Dat)) => x_expr_Aggs z87 z88 z89 z90 z91 z92 z93 z94 γ fun (z95 : List (List Dat)) => bif decide (Int.ofNat (List.length z95) = 1) then x_expr_Check 0 0 0 0 (bs []) (bs []) (bs []) [] γ fun (z96 : Int) => bif decide (z96 = 100) then x_expr_Arity 15 γ fun (z97 : Int) => bif decide (z97 = 1) then x_expr_All [] γ fun (z98 z99 z100 z101 : Int) (z102 z103 z104 : ByteArray) (z105 : List (List Dat)) => x_expr_Show z98 z99 z100 z101 z102 z103 z104 z105 γ fun (z106 : ByteArray) => K (decide (z106 = bs [84, 82, 85, 69])) else K false else K false else K false else K false else K false else K false else K false else K false else K false else K false else K false else K false
theorem e_law10_lives (p : Par) (x_expr_Column : Ty_expr_Column) (x_ref01_Int : Ty_ref01_Int) (x_expr_Lit : Ty_expr_Lit) (x_expr_Op : Ty_expr_Op) (x_expr_Check : Ty_expr_Check) (x_expr_Size : Ty_expr_Size) (x_expr_Depth : Ty_expr_Depth) (x_expr_Show : Ty_expr_Show) (x_expr_Columns : Ty_expr_Columns) (x_expr_Safe : Ty_expr_Safe) (x_expr_Parts : Ty_expr_Parts) (x_expr_All : Ty_expr_All) (x_expr_Same : Ty_expr_Same) (x_expr_Agg : Ty_expr_Agg) (x_expr_Aggs : Ty_expr_Aggs) (x_expr_Arity : Ty_expr_Arity)  (γ : Type) (K : List Ent × Sig → Option γ) : evFK (cfg p) (T_law10_lives x_expr_Column x_ref01_Int x_expr_Lit x_expr_Op x_expr_Check x_expr_Size x_expr_Depth x_expr_Show x_expr_Columns x_expr_Safe x_expr_Parts x_expr_All x_expr_Same x_expr_Agg x_expr_Aggs x_expr_Arity) (L_law10_lives x_expr_Column x_ref01_Int x_expr_Lit x_expr_Op x_expr_Check x_expr_Size x_expr_Depth x_expr_Show x_expr_Columns x_expr_Safe x_expr_Parts x_expr_All x_expr_Same x_expr_Agg x_expr_Aggs x_expr_Arity) 5 [] [] γ K = Sp.B_law10_lives x_expr_Column x_ref01_Int x_expr_Lit x_expr_Op x_expr_Check x_expr_Size x_expr_Depth x_expr_Show x_expr_Columns x_expr_Safe x_expr_Parts x_expr_All x_expr_Same x_expr_Agg x_expr_Aggs x_expr_Arity  γ (fun r0 => K ([(AVal.dat (Dat.bool r0), Own.none)], [])) := by kernel_rfl
def Sp.law10_lives : Ty_law10_lives := Sp.B_law10_lives Sp.expr_Column Sp.ref01_Int Sp.expr_Lit Sp.expr_Op Sp.expr_Check Sp.expr_Size Sp.expr_Depth Sp.expr_Show Sp.expr_Columns Sp.expr_Safe Sp.expr_Parts Sp.expr_All (Sp.expr_Same fuel) Sp.expr_Agg Sp.expr_Aggs Sp.expr_Arity
theorem E_law10_lives (p : Par) {F : Ent3} (hF : EntOk (cfg p) 5 F) : EntOk (cfg p) 5 (P_law10_lives Sp.law10_lives F) := by
  intro a s γ K q h
  unfold P_law10_lives at h
  split at h
  · exact body_ok (tab_call (tab_call (tab_call (tab_call (tab_call (tab_call (tab_call (tab_call (tab_call (tab_call (tab_call (tab_call (tab_call (tab_call (tab_call (tab_call (tab_nil _) (E_expr_Column p (ent_none _ _))) (E_ref01_Int p (ent_none _ _))) (E_expr_Lit p (ent_none _ _))) (E_expr_Op p (ent_none _ _))) (E_expr_Check p (ent_none _ _))) (E_expr_Size p (ent_none _ _))) (E_expr_Depth p (ent_none _ _))) (E_expr_Show p (ent_none _ _))) (E_expr_Columns p (ent_none _ _))) (E_expr_Safe p (ent_none _ _))) (E_expr_Parts p (ent_none _ _))) (E_expr_All p (ent_none _ _))) (E_expr_Same p fuel (ent_none _ _))) (E_expr_Agg p (ent_none _ _))) (E_expr_Aggs p (ent_none _ _))) (E_expr_Arity p (ent_none _ _))) rfl ((e_law10_lives p _ _ _ _ _ _ _ _ _ _ _ _ _ _ _ _ _ _ ).trans h)
  · exact hF _ _ _ _ _ h
abbrev Ty_ref10_Lit : Type 1 := Int → Int → ByteArray → (γ : Type) → (Int → Int → Int → Int → ByteArray → ByteArray → ByteArray → List (List Dat) → Option γ) → Option γ
def P_ref10_Lit (X : Ty_ref10_Lit) (F : Ent3) : Ent3 := fun a s γ K => match a, s with
  | [AVal.agg [(Dat.int IntKind.i64 v_v0, Own.none), (Dat.int IntKind.i64 v_v1, Own.none), (Dat.str v_v2, Own.none)]], [] => X v_v0 v_v1 v_v2 γ (fun r0 r1 r2 r3 r4 r5 r6 r7 => K ([(AVal.agg [(Dat.int IntKind.i64 r0, Own.none), (Dat.int IntKind.i64 r1, Own.none), (Dat.int IntKind.i64 r2, Own.none), (Dat.int IntKind.i64 r3, Own.none), (Dat.str r4, Own.none), (Dat.str r5, Own.none), (Dat.str r6, Own.none), (Dat.sl r7, Own.none)], Own.none)], []))
  | a, s => F a s γ K
def T_ref10_Lit  : CallK := noneK
def L_ref10_Lit  : LoopK := noneL
def Sp.B_ref10_Lit  (v_v0 : Int) (v_v1 : Int) (v_v2 : ByteArray) (γ : Type) (K : Int → Int → Int → Int → ByteArray → ByteArray → ByteArray → List (List Dat) → Option γ) : Option γ := K 1 0 v_v0 v_v1 v_v2 (bs []) (bs []) []
theorem e_ref10_Lit (p : Par)  (v_v0 : Int) (v_v1 : Int) (v_v2 : ByteArray) (γ : Type) (K : List Ent × Sig → Option γ) : evFK (cfg p) (T_ref10_Lit ) (L_ref10_Lit ) 8 [AVal.agg [(Dat.int IntKind.i64 v_v0, Own.none), (Dat.int IntKind.i64 v_v1, Own.none), (Dat.str v_v2, Own.none)]] [] γ K = Sp.B_ref10_Lit  v_v0 v_v1 v_v2 γ (fun r0 r1 r2 r3 r4 r5 r6 r7 => K ([(AVal.agg [(Dat.int IntKind.i64 r0, Own.none), (Dat.int IntKind.i64 r1, Own.none), (Dat.int IntKind.i64 r2, Own.none), (Dat.int IntKind.i64 r3, Own.none), (Dat.str r4, Own.none), (Dat.str r5, Own.none), (Dat.str r6, Own.none), (Dat.sl r7, Own.none)], Own.none)], [])) := by kernel_rfl
def Sp.ref10_Lit : Ty_ref10_Lit := Sp.B_ref10_Lit 
theorem E_ref10_Lit (p : Par) {F : Ent3} (hF : EntOk (cfg p) 8 F) : EntOk (cfg p) 8 (P_ref10_Lit Sp.ref10_Lit F) := by
  intro a s γ K q h
  unfold P_ref10_Lit at h
  split at h
  · exact body_ok (tab_nil _) rfl ((e_ref10_Lit p  _ _ _ _ _).trans h)
  · exact hF _ _ _ _ _ h
abbrev Ty_ref10_Same : Type 1 := Int → Int → Int → Int → ByteArray → ByteArray → ByteArray → List (List Dat) → Int → Int → Int → Int → ByteArray → ByteArray → ByteArray → List (List Dat) → (γ : Type) → (Bool → Option γ) → Option γ
def P_ref10_Same (X : Ty_ref10_Same) (F : Ent3) : Ent3 := fun a s γ K => match a, s with
  | [AVal.agg [(Dat.int IntKind.i64 v_a0, Own.none), (Dat.int IntKind.i64 v_a1, Own.none), (Dat.int IntKind.i64 v_a2, Own.none), (Dat.int IntKind.i64 v_a3, Own.none), (Dat.str v_a4, Own.none), (Dat.str v_a5, Own.none), (Dat.str v_a6, Own.none), (Dat.sl v_a7, Own.none)], AVal.agg [(Dat.int IntKind.i64 v_b0, Own.none), (Dat.int IntKind.i64 v_b1, Own.none), (Dat.int IntKind.i64 v_b2, Own.none), (Dat.int IntKind.i64 v_b3, Own.none), (Dat.str v_b4, Own.none), (Dat.str v_b5, Own.none), (Dat.str v_b6, Own.none), (Dat.sl v_b7, Own.none)]], [] => X v_a0 v_a1 v_a2 v_a3 v_a4 v_a5 v_a6 v_a7 v_b0 v_b1 v_b2 v_b3 v_b4 v_b5 v_b6 v_b7 γ (fun r0 => K ([(AVal.dat (Dat.bool r0), Own.none)], []))
  | a, s => F a s γ K
abbrev Ty_ref10_Same_L0 : Type 1 := Bool → Int → Int → Int → Int → Int → ByteArray → ByteArray → ByteArray → List (List Dat) → Int → Int → Int → Int → ByteArray → ByteArray → ByteArray → List (List Dat) → (γ : Type) → (Ex → Bool → Int → Int → Int → Int → Int → ByteArray → ByteArray → ByteArray → List (List Dat) → Int → Int → Int → Int → ByteArray → ByteArray → ByteArray → List (List Dat) → Option γ) → Option γ
def P_ref10_Same_L0 (X : Ty_ref10_Same_L0) (F : Loop3) : Loop3 := fun a s γ K => match a, s with
  | [AVal.loc 2 0, AVal.loc 3 0], ([AVal.dat (Dat.bool v_), AVal.dat (Dat.int IntKind.i64 v_i), AVal.agg [(Dat.int IntKind.i64 v_box0, Own.none), (Dat.int IntKind.i64 v_box1, Own.none), (Dat.int IntKind.i64 v_box2, Own.none), (Dat.int IntKind.i64 v_box3, Own.none), (Dat.str v_box4, Own.none), (Dat.str v_box5, Own.none), (Dat.str v_box6, Own.none), (Dat.sl v_box7, Own.none)], AVal.agg [(Dat.int IntKind.i64 v_box0_1, Own.none), (Dat.int IntKind.i64 v_box1_1, Own.none), (Dat.int IntKind.i64 v_box2_1, Own.none), (Dat.int IntKind.i64 v_box3_1, Own.none), (Dat.str v_box4_1, Own.none), (Dat.str v_box5_1, Own.none), (Dat.str v_box6_1, Own.none), (Dat.sl v_box7_1, Own.none)]], []) => X v_ v_i v_box0 v_box1 v_box2 v_box3 v_box4 v_box5 v_box6 v_box7 v_box0_1 v_box1_1 v_box2_1 v_box3_1 v_box4_1 v_box5_1 v_box6_1 v_box7_1 γ (fun e x0 x1 x2 x3 x4 x5 x6 x7 x8 x9 x10 x11 x12 x13 x14 x15 x16 x17 => K (e, ([AVal.dat (Dat.bool x0), AVal.dat (Dat.int IntKind.i64 x1), AVal.agg [(Dat.int IntKind.i64 x2, Own.none), (Dat.int IntKind.i64 x3, Own.none), (Dat.int IntKind.i64 x4, Own.none), (Dat.int IntKind.i64 x5, Own.none), (Dat.str x6, Own.none), (Dat.str x7, Own.none), (Dat.str x8, Own.none), (Dat.sl x9, Own.none)], AVal.agg [(Dat.int IntKind.i64 x10, Own.none), (Dat.int IntKind.i64 x11, Own.none), (Dat.int IntKind.i64 x12, Own.none), (Dat.int IntKind.i64 x13, Own.none), (Dat.str x14, Own.none), (Dat.str x15, Own.none), (Dat.str x16, Own.none), (Dat.sl x17, Own.none)]], [])))
  | a, s => F a s γ K
def T_ref10_Same_L0 (x_ref10_Same : Ty_ref10_Same) : CallK := (addK noneK 6 (P_ref10_Same x_ref10_Same none3))
def L_ref10_Same_L0 (x_ref10_Same : Ty_ref10_Same) : LoopK := noneL
def Sp.B_ref10_Same_L0 (x_ref10_Same_L0 : Ty_ref10_Same_L0) (x_ref10_Same : Ty_ref10_Same) (v_ : Bool) (v_i : Int) (v_box0 : Int) (v_box1 : Int) (v_box2 : Int) (v_box3 : Int) (v_box4 : ByteArray) (v_box5 : ByteArray) (v_box6 : ByteArray) (v_box7 : List (List Dat)) (v_box0_1 : Int) (v_box1_1 : Int) (v_box2_1 : Int) (v_box3_1 : Int) (v_box4_1 : ByteArray) (v_box5_1 : ByteArray) (v_box6_1 : ByteArray) (v_box7_1 : List (List Dat)) (γ : Type) (K : Ex → Bool → Int → Int → Int → Int → Int → ByteArray → ByteArray → ByteArray → List (List Dat) → Int → Int → Int → Int → ByteArray → ByteArray → ByteArray → List (List Dat) → Option γ) : Option γ := bif decide (v_i < Int.ofNat (List.length v_box7)) then elemAt v_box7 v_i fun (z20 : List Dat) => bif List.length z20 == 8 then cellAt z20 0 fun (z21 : Dat) => Aev.asInt IntKind.i64 z21 fun (z22 : Int) => cellAt z20 1 fun (z23 : Dat) => Aev.asInt IntKind.i64 z23 fun (z24 : Int) => cellAt z20 2 fun (z25 : Dat) => Aev.asInt IntKind.i64 z25 fun (z26 : Int) => cellAt z20 3 fun (z27 : Dat) => Aev.asInt IntKind.i64 z27 fun (z28 : Int) => cellAt z20 4 fun (z29 : Dat) => asStr z29 fun (z30 : ByteArray) => cellAt z20 5 fun (z31 : Dat) => asStr z31 fun (z32 : ByteArray) => cellAt z20 6 fun (z33 : Dat) => asStr z33 fun (z34 : ByteArray) => cellAt z20 7 fun (z35 : Dat) => asSl z35 fun (z36 : List (List Dat)) => elemAt v_box7_1 v_i fun (z37 : List Dat) => bif List.length z37 == 8 then cellAt z37 0 fun (z38 : Dat) => Aev.asInt IntKind.i64 z38 fun (z39 : Int) => cellAt z37 1 fun (z40 : Dat) => Aev.asInt IntKind.i64 z40 fun (z41 : Int) => cellAt z37 2 fun (z42 : Dat) => Aev.asInt IntKind.i64 z42 fun (z43 : Int) => cellAt z37 3 fun (z44 : Dat) => Aev.asInt IntKind.i64 z44 fun (z45 : Int) => cellAt z37 4 fun (z46 : Dat) => asStr z46 fun (z47 : ByteArray) => cellAt z37 5 fun (z48 : Dat) => asStr z48 fun (z49 : ByteArray) => cellAt z37 6 fun (z50 : Dat) => asStr z50 fun (z51 : ByteArray) => cellAt z37 7 fun (z52 : Dat) => asSl z52 fun (z53 : List (List Dat)) => x_ref10_Same z22 z24 z26 z28 z30 z32 z34 z36 z39 z41 z43 z45 z47 z49 z51 z53 γ fun (z54 : Bool) => bif !z54 then K Ex.ret false v_i v_box0 v_box1 v_box2 v_box3 v_box4 v_box5 v_box6 v_box7 v_box0_1 v_box1_1 v_box2_1 v_box3_1 v_box4_1 v_box5_1 v_box6_1 v_box7_1 else x_ref10_Same_L0 v_ (IntKind.wrap IntKind.i64 (v_i + 1)) v_box0 v_box1 v_box2 v_box3 v_box4 v_box5 v_box6 v_box7 v_box0_1 v_box1_1 v_box2_1 v_box3_1 v_box4_1 v_box5_1 v_box6_1 v_box7_1 γ K else none else none else K (Ex.exit 0) v_ v_i v_box0 v_box1 v_box2 v_box3 v_box4 v_box5 v_box6 v_box7 v_box0_1 v_box1_1 v_box2_1 v_box3_1 v_box4_1 v_box5_1 v_box6_1 v_box7_1
theorem e_ref10_Same_L0 (p : Par) (x_ref10_Same_L0 : Ty_ref10_Same_L0) (x_ref10_Same : Ty_ref10_Same) (v_ : Bool) (v_i : Int) (v_box0 : Int) (v_box1 : Int) (v_box2 : Int) (v_box3 : Int) (v_box4 : ByteArray) (v_box5 : ByteArray) (v_box6 : ByteArray) (v_box7 : List (List Dat)) (v_box0_1 : Int) (v_box1_1 : Int) (v_box2_1 : Int) (v_box3_1 : Int) (v_box4_1 : ByteArray) (v_box5_1 : ByteArray) (v_box6_1 : ByteArray) (v_box7_1 : List (List Dat)) (γ : Type) (K : Ex × Vars → Option γ) : roundK (cfg p) (T_ref10_Same_L0 x_ref10_Same) (L_ref10_Same_L0 x_ref10_Same) 6 0 [AVal.loc 2 0, AVal.loc 3 0] ([AVal.dat (Dat.bool v_), AVal.dat (Dat.int IntKind.i64 v_i), AVal.agg [(Dat.int IntKind.i64 v_box0, Own.none), (Dat.int IntKind.i64 v_box1, Own.none), (Dat.int IntKind.i64 v_box2, Own.none), (Dat.int IntKind.i64 v_box3, Own.none), (Dat.str v_box4, Own.none), (Dat.str v_box5, Own.none), (Dat.str v_box6, Own.none), (Dat.sl v_box7, Own.none)], AVal.agg [(Dat.int IntKind.i64 v_box0_1, Own.none), (Dat.int IntKind.i64 v_box1_1, Own.none), (Dat.int IntKind.i64 v_box2_1, Own.none), (Dat.int IntKind.i64 v_box3_1, Own.none), (Dat.str v_box4_1, Own.none), (Dat.str v_box5_1, Own.none), (Dat.str v_box6_1, Own.none), (Dat.sl v_box7_1, Own.none)]], []) γ (contL (fun v => P_ref10_Same_L0 x_ref10_Same_L0 noneL3 [AVal.loc 2 0, AVal.loc 3 0] v γ K) K) = Sp.B_ref10_Same_L0 x_ref10_Same_L0 x_ref10_Same v_ v_i v_box0 v_box1 v_box2 v_box3 v_box4 v_box5 v_box6 v_box7 v_box0_1 v_box1_1 v_box2_1 v_box3_1 v_box4_1 v_box5_1 v_box6_1 v_box7_1 γ (fun e x0 x1 x2 x3 x4 x5 x6 x7 x8 x9 x10 x11 x12 x13 x14 x15 x16 x17 => K (e, ([AVal.dat (Dat.bool x0), AVal.dat (Dat.int IntKind.i64 x1), AVal.agg [(Dat.int IntKind.i64 x2, Own.none), (Dat.int IntKind.i64 x3, Own.none), (Dat.int IntKind.i64 x4, Own.none), (Dat.int IntKind.i64 x5, Own.none), (Dat.str x6, Own.none), (Dat.str x7, Own.none), (Dat.str x8, Own.none), (Dat.sl x9, Own.none)], AVal.agg [(Dat.int IntKind.i64 x10, Own.none), (Dat.int IntKind.i64 x11, Own.none), (Dat.int IntKind.i64 x12, Own.none), (Dat.int IntKind.i64 x13, Own.none), (Dat.str x14, Own.none), (Dat.str x15, Own.none), (Dat.str x16, Own.none), (Dat.sl x17, Own.none)]], []))) := by kernel_rfl
def T_ref10_Same (x_ref10_Same_L0 : Ty_ref10_Same_L0) : CallK := noneK
def L_ref10_Same (x_ref10_Same_L0 : Ty_ref10_Same_L0) : LoopK := (addL noneL 6 0 (P_ref10_Same_L0 x_ref10_Same_L0 noneL3))
def Sp.B_ref10_Same (x_ref10_Same_L0 : Ty_ref10_Same_L0) (v_a0 : Int) (v_a1 : Int) (v_a2 : Int) (v_a3 : Int) (v_a4 : ByteArray) (v_a5 : ByteArray) (v_a6 : ByteArray) (v_a7 : List (List Dat)) (v_b0 : Int) (v_b1 : Int) (v_b2 : Int) (v_b3 : Int) (v_b4 : ByteArray) (v_b5 : ByteArray) (v_b6 : ByteArray) (v_b7 : List (List Dat)) (γ : Type) (K : Bool → Option γ) : Option γ := bif !decide (v_a0 = v_b0) then K false else bif !decide (v_a1 = v_b1) then K false else bif !(decide (v_a2 = v_b2) && (decide (v_a3 = v_b3) && (decide (v_a4 = v_b4) && true))) then K false else bif !decide (v_a5 = v_b5) then K false else bif !decide (v_a6 = v_b6) then K false else bif !decide (Int.ofNat (List.length v_a7) = Int.ofNat (List.length v_b7)) then K false else x_ref10_Same_L0 false 0 v_a0 v_a1 v_a2 v_a3 v_a4 v_a5 v_a6 v_a7 v_b0 v_b1 v_b2 v_b3 v_b4 v_b5 v_b6 v_b7 γ fun (z18 : Ex) (z19 : Bool) (z20 z21 z22 z23 z24 : Int) (z25 z26 z27 : ByteArray) (z28 : List (List Dat)) (z29 z30 z31 z32 : Int) (z33 z34 z35 : ByteArray) (z36 : List (List Dat)) => bif Ex.isExit z18 0 then K true else bif Ex.isRet z18 then K z19 else none
theorem e_ref10_Same (p : Par) (x_ref10_Same_L0 : Ty_ref10_Same_L0) (v_a0 : Int) (v_a1 : Int) (v_a2 : Int) (v_a3 : Int) (v_a4 : ByteArray) (v_a5 : ByteArray) (v_a6 : ByteArray) (v_a7 : List (List Dat)) (v_b0 : Int) (v_b1 : Int) (v_b2 : Int) (v_b3 : Int) (v_b4 : ByteArray) (v_b5 : ByteArray) (v_b6 : ByteArray) (v_b7 : List (List Dat)) (γ : Type) (K : List Ent × Sig → Option γ) : evFK (cfg p) (T_ref10_Same x_ref10_Same_L0) (L_ref10_Same x_ref10_Same_L0) 6 [AVal.agg [(Dat.int IntKind.i64 v_a0, Own.none), (Dat.int IntKind.i64 v_a1, Own.none), (Dat.int IntKind.i64 v_a2, Own.none), (Dat.int IntKind.i64 v_a3, Own.none), (Dat.str v_a4, Own.none), (Dat.str v_a5, Own.none), (Dat.str v_a6, Own.none), (Dat.sl v_a7, Own.none)], AVal.agg [(Dat.int IntKind.i64 v_b0, Own.none), (Dat.int IntKind.i64 v_b1, Own.none), (Dat.int IntKind.i64 v_b2, Own.none), (Dat.int IntKind.i64 v_b3, Own.none), (Dat.str v_b4, Own.none), (Dat.str v_b5, Own.none), (Dat.str v_b6, Own.none), (Dat.sl v_b7, Own.none)]] [] γ K = Sp.B_ref10_Same x_ref10_Same_L0 v_a0 v_a1 v_a2 v_a3 v_a4 v_a5 v_a6 v_a7 v_b0 v_b1 v_b2 v_b3 v_b4 v_b5 v_b6 v_b7 γ (fun r0 => K ([(AVal.dat (Dat.bool r0), Own.none)], [])) := by kernel_rfl
def Sp.ref10_Same_L0 (R_ref10_Same : Ty_ref10_Same) : Nat → Ty_ref10_Same_L0
  | 0 => fun _ _ _ _ _ _ _ _ _ _ _ _ _ _ _ _ _ _ _ _ => none
  | n + 1 => Sp.B_ref10_Same_L0 (Sp.ref10_Same_L0 R_ref10_Same n) R_ref10_Same
theorem E0_ref10_Same_L0 (p : Par) (R_ref10_Same : Ty_ref10_Same) (h_ref10_Same : ∀ {F : Ent3}, EntOk (cfg p) 6 F → EntOk (cfg p) 6 (P_ref10_Same R_ref10_Same F)) : ∀ n, EntOkL (cfg p) 6 0 (P_ref10_Same_L0 (Sp.ref10_Same_L0 R_ref10_Same n) noneL3) := entL_rounds (tab_call (tab_nil _) (h_ref10_Same (ent_none _ _))) (by kernel_rfl) (fun c v γ K => by unfold P_ref10_Same_L0; split <;> rfl) fun n c v γ K q h => by
  unfold P_ref10_Same_L0 at h
  split at h
  · exact (e_ref10_Same_L0 p _ _ _ _ _ _ _ _ _ _ _ _ _ _ _ _ _ _ _ _ _ _).trans h
  · cases h
theorem E_ref10_Same_L0 (p : Par) (R_ref10_Same : Ty_ref10_Same) (h_ref10_Same : ∀ {F : Ent3}, EntOk (cfg p) 6 F → EntOk (cfg p) 6 (P_ref10_Same R_ref10_Same F)) (n : Nat) {F : Loop3} (hF : EntOkL (cfg p) 6 0 F) : EntOkL (cfg p) 6 0 (P_ref10_Same_L0 (Sp.ref10_Same_L0 R_ref10_Same n) F) := by
  intro c v γ K q h
  unfold P_ref10_Same_L0 at h
  split at h
  · exact E0_ref10_Same_L0 p R_ref10_Same h_ref10_Same n _ _ _ _ _ h
  · exact hF _ _ _ _ _ h
def Sp.ref10_Same : Nat → Ty_ref10_Same
  | 0 => fun _ _ _ _ _ _ _ _ _ _ _ _ _ _ _ _ _ _ => none
  | n + 1 => Sp.B_ref10_Same (Sp.ref10_Same_L0 (Sp.ref10_Same n) fuel)
theorem G56_ok (p : Par) (n : Nat) : (∀ {F : Ent3}, EntOk (cfg p) 6 F → EntOk (cfg p) 6 (P_ref10_Same (Sp.ref10_Same n) F)) := by
  induction n with
  | zero =>
    refine ?_
    · intro F hF a s γ K q h
      unfold P_ref10_Same at h
      split at h
      · cases h
      · exact hF _ _ _ _ _ h
  | succ n ih =>
    refine ?_
    · intro F hF a s γ K q h
      unfold P_ref10_Same at h
      split at h
      · exact body_ok (tab_loop (tab_nil _) (E_ref10_Same_L0 p (Sp.ref10_Same n) ih fuel (entL_none _ _ _))) rfl ((e_ref10_Same p _ _ _ _ _ _ _ _ _ _ _ _ _ _ _ _ _ _ _).trans h)
      · exact hF _ _ _ _ _ h
theorem E_ref10_Same (p : Par) (n : Nat) {F : Ent3} (hF : EntOk (cfg p) 6 F) : EntOk (cfg p) 6 (P_ref10_Same (Sp.ref10_Same n) F) := (G56_ok p n) hF
abbrev Ty_ref10_Column : Type 1 := ByteArray → ByteArray → (γ : Type) → (Int → Int → Int → Int → ByteArray → ByteArray → ByteArray → List (List Dat) → Option γ) → Option γ
def P_ref10_Column (X : Ty_ref10_Column) (F : Ent3) : Ent3 := fun a s γ K => match a, s with
  | [AVal.dat (Dat.str v_tab), AVal.dat (Dat.str v_col)], [] => X v_tab v_col γ (fun r0 r1 r2 r3 r4 r5 r6 r7 => K ([(AVal.agg [(Dat.int IntKind.i64 r0, Own.none), (Dat.int IntKind.i64 r1, Own.none), (Dat.int IntKind.i64 r2, Own.none), (Dat.int IntKind.i64 r3, Own.none), (Dat.str r4, Own.none), (Dat.str r5, Own.none), (Dat.str r6, Own.none), (Dat.sl r7, Own.none)], Own.none)], []))
  | a, s => F a s γ K
def T_ref10_Column  : CallK := noneK
def L_ref10_Column  : LoopK := noneL
def Sp.B_ref10_Column  (v_tab : ByteArray) (v_col : ByteArray) (γ : Type) (K : Int → Int → Int → Int → ByteArray → ByteArray → ByteArray → List (List Dat) → Option γ) : Option γ := K 2 0 0 0 (bs []) v_tab v_col []
theorem e_ref10_Column (p : Par)  (v_tab : ByteArray) (v_col : ByteArray) (γ : Type) (K : List Ent × Sig → Option γ) : evFK (cfg p) (T_ref10_Column ) (L_ref10_Column ) 10 [AVal.dat (Dat.str v_tab), AVal.dat (Dat.str v_col)] [] γ K = Sp.B_ref10_Column  v_tab v_col γ (fun r0 r1 r2 r3 r4 r5 r6 r7 => K ([(AVal.agg [(Dat.int IntKind.i64 r0, Own.none), (Dat.int IntKind.i64 r1, Own.none), (Dat.int IntKind.i64 r2, Own.none), (Dat.int IntKind.i64 r3, Own.none), (Dat.str r4, Own.none), (Dat.str r5, Own.none), (Dat.str r6, Own.none), (Dat.sl r7, Own.none)], Own.none)], [])) := by kernel_rfl
def Sp.ref10_Column : Ty_ref10_Column := Sp.B_ref10_Column 
theorem E_ref10_Column (p : Par) {F : Ent3} (hF : EntOk (cfg p) 10 F) : EntOk (cfg p) 10 (P_ref10_Column Sp.ref10_Column F) := by
  intro a s γ K q h
  unfold P_ref10_Column at h
  split at h
  · exact body_ok (tab_nil _) rfl ((e_ref10_Column p  _ _ _ _).trans h)
  · exact hF _ _ _ _ _ h
abbrev Ty_ref10_Op : Type 1 := Int → List (List Dat) → (γ : Type) → (Int → Int → Int → Int → ByteArray → ByteArray → ByteArray → List (List Dat) → Option γ) → Option γ
def P_ref10_Op (X : Ty_ref10_Op) (F : Ent3) : Ent3 := fun a s γ K => match a, s with
  | [AVal.dat (Dat.int IntKind.i64 v_n), AVal.dat (Dat.sl v_l)], [] => X v_n v_l γ (fun r0 r1 r2 r3 r4 r5 r6 r7 => K ([(AVal.agg [(Dat.int IntKind.i64 r0, Own.none), (Dat.int IntKind.i64 r1, Own.none), (Dat.int IntKind.i64 r2, Own.none), (Dat.int IntKind.i64 r3, Own.none), (Dat.str r4, Own.none), (Dat.str r5, Own.none), (Dat.str r6, Own.none), (Dat.sl r7, Own.none)], Own.none)], []))
  | a, s => F a s γ K
def T_ref10_Op  : CallK := noneK
def L_ref10_Op  : LoopK := noneL
def Sp.B_ref10_Op  (v_n : Int) (v_l : List (List Dat)) (γ : Type) (K : Int → Int → Int → Int → ByteArray → ByteArray → ByteArray → List (List Dat) → Option γ) : Option γ := K 3 v_n 0 0 (bs []) (bs []) (bs []) v_l
theorem e_ref10_Op (p : Par)  (v_n : Int) (v_l : List (List Dat)) (γ : Type) (K : List Ent × Sig → Option γ) : evFK (cfg p) (T_ref10_Op ) (L_ref10_Op ) 12 [AVal.dat (Dat.int IntKind.i64 v_n), AVal.dat (Dat.sl v_l)] [] γ K = Sp.B_ref10_Op  v_n v_l γ (fun r0 r1 r2 r3 r4 r5 r6 r7 => K ([(AVal.agg [(Dat.int IntKind.i64 r0, Own.none), (Dat.int IntKind.i64 r1, Own.none), (Dat.int IntKind.i64 r2, Own.none), (Dat.int IntKind.i64 r3, Own.none), (Dat.str r4, Own.none), (Dat.str r5, Own.none), (Dat.str r6, Own.none), (Dat.sl r7, Own.none)], Own.none)], [])) := by kernel_rfl
def Sp.ref10_Op : Ty_ref10_Op := Sp.B_ref10_Op 
theorem E_ref10_Op (p : Par) {F : Ent3} (hF : EntOk (cfg p) 12 F) : EntOk (cfg p) 12 (P_ref10_Op Sp.ref10_Op F) := by
  intro a s γ K q h
  unfold P_ref10_Op at h
  split at h
  · exact body_ok (tab_nil _) rfl ((e_ref10_Op p  _ _ _ _).trans h)
  · exact hF _ _ _ _ _ h
abbrev Ty_ref10_Arity : Type 1 := Int → (γ : Type) → (Int → Option γ) → Option γ
def P_ref10_Arity (X : Ty_ref10_Arity) (F : Ent3) : Ent3 := fun a s γ K => match a, s with
  | [AVal.dat (Dat.int IntKind.i64 v_op)], [] => X v_op γ (fun r0 => K ([(AVal.dat (Dat.int IntKind.i64 r0), Own.none)], []))
  | a, s => F a s γ K
def T_ref10_Arity  : CallK := noneK
def L_ref10_Arity  : LoopK := noneL
def Sp.B_ref10_Arity  (v_op : Int) (γ : Type) (K : Int → Option γ) : Option γ := bif decide (v_op = 3) then bif decide (v_op = 3) then K 1 else bif decide (1 ≤ v_op) then bif decide (v_op ≤ 17) then K 2 else K 0 else K 0 else bif decide (v_op = 15) then bif decide (v_op = 15) then K 1 else bif decide (1 ≤ v_op) then bif decide (v_op ≤ 17) then K 2 else K 0 else K 0 else bif decide (v_op = 16) then bif decide (v_op = 16) then K 1 else bif decide (1 ≤ v_op) then bif decide (v_op ≤ 17) then K 2 else K 0 else K 0 else bif decide (v_op = 17) then K 1 else bif decide (1 ≤ v_op) then bif decide (v_op ≤ 17) then K 2 else K 0 else K 0
theorem e_ref10_Arity (p : Par)  (v_op : Int) (γ : Type) (K : List Ent × Sig → Option γ) : evFK (cfg p) (T_ref10_Arity ) (L_ref10_Arity ) 16 [AVal.dat (Dat.int IntKind.i64 v_op)] [] γ K = Sp.B_ref10_Arity  v_op γ (fun r0 => K ([(AVal.dat (Dat.int IntKind.i64 r0), Own.none)], [])) := by kernel_rfl
def Sp.ref10_Arity : Ty_ref10_Arity := Sp.B_ref10_Arity 
theorem E_ref10_Arity (p : Par) {F : Ent3} (hF : EntOk (cfg p) 16 F) : EntOk (cfg p) 16 (P_ref10_Arity Sp.ref10_Arity F) := by
  intro a s γ K q h
  unfold P_ref10_Arity at h
  split at h
  · exact body_ok (tab_nil _) rfl ((e_ref10_Arity p  _ _ _).trans h)
  · exact hF _ _ _ _ _ h
abbrev Ty_law10_ExprMakes : Type 1 := Int → Int → Int → Int → ByteArray → ByteArray → ByteArray → List (List Dat) → Int → Int → Int → Int → ByteArray → ByteArray → ByteArray → List (List Dat) → Int → Int → Int → ByteArray → ByteArray → ByteArray → (γ : Type) → (Bool → Option γ) → Option γ
def P_law10_ExprMakes (X : Ty_law10_ExprMakes) (F : Ent3) : Ent3 := fun a s γ K => match a, s with
  | [AVal.agg [(Dat.int IntKind.i64 v_a0, Own.none), (Dat.int IntKind.i64 v_a1, Own.none), (Dat.int IntKind.i64 v_a2, Own.none), (Dat.int IntKind.i64 v_a3, Own.none), (Dat.str v_a4, Own.none), (Dat.str v_a5, Own.none), (Dat.str v_a6, Own.none), (Dat.sl v_a7, Own.none)], AVal.agg [(Dat.int IntKind.i64 v_b0, Own.none), (Dat.int IntKind.i64 v_b1, Own.none), (Dat.int IntKind.i64 v_b2, Own.none), (Dat.int IntKind.i64 v_b3, Own.none), (Dat.str v_b4, Own.none), (Dat.str v_b5, Own.none), (Dat.str v_b6, Own.none), (Dat.sl v_b7, Own.none)], AVal.dat (Dat.int IntKind.i64 v_n), AVal.agg [(Dat.int IntKind.i64 v_v0, Own.none), (Dat.int IntKind.i64 v_v1, Own.none), (Dat.str v_v2, Own.none)], AVal.dat (Dat.str v_tab), AVal.dat (Dat.str v_col)], [] => X v_a0 v_a1 v_a2 v_a3 v_a4 v_a5 v_a6 v_a7 v_b0 v_b1 v_b2 v_b3 v_b4 v_b5 v_b6 v_b7 v_n v_v0 v_v1 v_v2 v_tab v_col γ (fun r0 => K ([(AVal.dat (Dat.bool r0), Own.none)], []))
  | a, s => F a s γ K
def T_law10_ExprMakes (x_ref10_Large : Ty_ref10_Large) (x_law10_lives : Ty_law10_lives) (x_expr_Lit : Ty_expr_Lit) (x_ref10_Lit : Ty_ref10_Lit) (x_ref10_Same : Ty_ref10_Same) (x_expr_Column : Ty_expr_Column) (x_ref10_Column : Ty_ref10_Column) (x_expr_Op : Ty_expr_Op) (x_ref10_Op : Ty_ref10_Op) (x_expr_Agg : Ty_expr_Agg) (x_expr_Same : Ty_expr_Same) (x_expr_Arity : Ty_expr_Arity) (x_ref10_Arity : Ty_ref10_Arity) : CallK := (addK (addK (addK (addK (addK (addK (addK (addK (addK (addK (addK (addK (addK noneK 4 (P_ref10_Large x_ref10_Large none3)) 5 (P_law10_lives x_law10_lives none3)) 7 (P_expr_Lit x_expr_Lit none3)) 8 (P_ref10_Lit x_ref10_Lit none3)) 6 (P_ref10_Same x_ref10_Same none3)) 9 (P_expr_Column x_expr_Column none3)) 10 (P_ref10_Column x_ref10_Column none3)) 11 (P_expr_Op x_expr_Op none3)) 12 (P_ref10_Op x_ref10_Op none3)) 13 (P_expr_Agg x_expr_Agg none3)) 14 (P_expr_Same x_expr_Same none3)) 15 (P_expr_Arity x_expr_Arity none3)) 16 (P_ref10_Arity x_ref10_Arity none3))
def L_law10_ExprMakes (x_ref10_Large : Ty_ref10_Large) (x_law10_lives : Ty_law10_lives) (x_expr_Lit : Ty_expr_Lit) (x_ref10_Lit : Ty_ref10_Lit) (x_ref10_Same : Ty_ref10_Same) (x_expr_Column : Ty_expr_Column) (x_ref10_Column : Ty_ref10_Column) (x_expr_Op : Ty_expr_Op) (x_ref10_Op : Ty_ref10_Op) (x_expr_Agg : Ty_expr_Agg) (x_expr_Same : Ty_expr_Same) (x_expr_Arity : Ty_expr_Arity) (x_ref10_Arity : Ty_ref10_Arity) : LoopK := noneL
def Sp.B_law10_ExprMakes (x_ref10_Large : Ty_ref10_Large) (x_law10_lives : Ty_law10_lives) (x_expr_Lit : Ty_expr_Lit) (x_ref10_Lit : Ty_ref10_Lit) (x_ref10_Same : Ty_ref10_Same) (x_expr_Column : Ty_expr_Column) (x_ref10_Column : Ty_ref10_Column) (x_expr_Op : Ty_expr_Op) (x_ref10_Op : Ty_ref10_Op) (x_expr_Agg : Ty_expr_Agg) (x_expr_Same : Ty_expr_Same) (x_expr_Arity : Ty_expr_Arity) (x_ref10_Arity : Ty_ref10_Arity) (v_a0 : Int) (v_a1 : Int) (v_a2 : Int) (v_a3 : Int) (v_a4 : ByteArray) (v_a5 : ByteArray) (v_a6 : ByteArray) (v_a7 : List (List Dat)) (v_b0 : Int) (v_b1 : Int) (v_b2 : Int) (v_b3 : Int) (v_b4 : ByteArray) (v_b5 : ByteArray) (v_b6 : ByteArray) (v_b7 : List (List Dat)) (v_n : Int) (v_v0 : Int) (v_v1 : Int) (v_v2 : ByteArray) (v_tab : ByteArray) (v_col : ByteArray) (γ : Type) (K : Bool → Option γ) : Option γ := x_ref10_Large v_a0 v_a1 v_a2 v_a3 v_a4 v_a5 v_a6 v_a7 γ fun (z24 : Bool) => bif z24 then x_law10_lives γ fun (z25 : Bool) => K z25 else x_ref10_Large v_b0 v_b1 v_b2 v_b3 v_b4 v_b5 v_b6 v_b7 γ fun (z26 : Bool) => bif z26 then x_law10_lives γ fun (z27 : Bool) => K z27 else bif decide (200 < Int.ofNat (ByteArray.size v_tab)) then x_law10_lives γ fun (z28 : Bool) => K z28 else bif decide (200 < Int.ofNat (ByteArray.size v_col)) then x_law10_lives γ fun (z29 : Bool) => K z29 else bif decide (500 < Int.ofNat (ByteArray.size v_v2)) then x_law10_lives γ fun (z30 : Bool) => K z30 else x_law10_lives γ fun (z31 : Bool) => bif z31 then x_expr_Lit v_v0 v_v1 v_v2 γ fun (z32 z33 z34 z35 : Int) (z36 z37 z38 : ByteArray) (z39 : List (List Dat)) => x_ref10_Lit v_v0 v_v1 v_v2 γ fun (z40 z41 z42 z43 : Int) (z44 z45 z46 : ByteArray) (z47 : List (List Dat)) => x_ref10_Same z32 z33 z34 z35 z36 z37 z38 z39 z40 z41 z42 z43 z44 z45 z46 z47 γ fun (z48 : Bool) => bif z48 then x_expr_Column v_tab v_col γ fun (z49 z50 z51 z52 : Int) (z53 z54 z55 : ByteArray) (z56 : List (List Dat)) => x_ref10_Column v_tab v_col γ fun (z57 z58 z59 z60 : Int) (z61 z62 z63 : ByteArray) (z64 : List (List Dat)) => x_ref10_Same z49 z50 z51 z52 z53 z54 z55 z56 z57 z58 z59 z60 z61 z62 z63 z64 γ fun (z65 : Bool) => bif z65 then x_expr_Op v_n [[Dat.int IntKind.i64 v_a0, Dat.int IntKind.i64 v_a1, Dat.int IntKind.i64 v_a2, Dat.int IntKind.i64 v_a3, Dat.str v_a4, Dat.str v_a5, Dat.str v_a6, Dat.sl v_a7], [Dat.int IntKind.i64 v_b0, Dat.int IntKind.i64 v_b1, Dat.int IntKind.i64 v_b2, Dat.int IntKind.i64 v_b3, Dat.str v_b4, Dat.str v_b5, Dat.str v_b6, Dat.sl v_b7]] γ fun (z66 z67 z68 z69 : Int) (z70 z71 z72 : ByteArray) (z73 : List (List Dat)) => x_ref10_Op v_n [[Dat.int IntKind.i64 v_a0, Dat.int IntKind.i64 v_a1, Dat.int IntKind.i64 v_a2, Dat.int IntKind.i64 v_a3, Dat.str v_a4, Dat.str v_a5, Dat.str v_a6, Dat.sl v_a7], [Dat.int IntKind.i64 v_b0, Dat.int IntKind.i64 v_b1, Dat.int IntKind.i64 v_b2, Dat.int IntKind.i64 v_b3, Dat.str v_b4, Dat.str v_b5, Dat.str v_b6, Dat.sl v_b7]] γ fun (z74 z75 z76 z77 : Int) (z78 z79 z80 : ByteArray) (z81 : List (List Dat)) => x_ref10_Same z66 z67 z68 z69 z70 z71 z72 z73 z74 z75 z76 z77 z78 z79 z80 z81 γ fun (z82 : Bool) => bif z82 then x_expr_Agg v_n [[Dat.int IntKind.i64 v_a0, Dat.int IntKind.i64 v_a1, Dat.int IntKind.i64 v_a2, Dat.int IntKind.i64 v_a3, Dat.str v_a4, Dat.str v_a5, Dat.str v_a6, Dat.sl v_a7]] γ fun (z83 z84 z85 z86 : Int) (z87 z88 z89 : ByteArray) (z90 : List (List Dat)) => x_ref10_Same z83 z84 z85 z86 z87 z88 z89 z90 4 v_n 0 0 (bs []) (bs []) (bs []) [[Dat.int IntKind.i64 v_a0, Dat.int IntKind.i64 v_a1, Dat.int IntKind.i64 v_a2, Dat.int IntKind.i64 v_a3, Dat.str v_a4, Dat.str v_a5, Dat.str v_a6, Dat.sl v_a7]] γ fun (z91 : Bool) => bif z91 then x_expr_Same v_a0 v_a1 v_a2 v_a3 v_a4 v_a5 v_a6 v_a7 v_b0 v_b1 v_b2 v_b3 v_b4 v_b5 v_b6 v_b7 γ fun (z92 : Bool) => x_ref10_Same v_a0 v_a1 v_a2 v_a3 v_a4 v_a5 v_a6 v_a7 v_b0 v_b1 v_b2 v_b3 v_b4 v_b5 v_b6 v_b7 γ fun (z93 : Bool) => bif z92 == z93 then x_expr_Arity v_n γ fun (z94 : Int) => x_ref10_Arity v_n γ fun (z95 : Int) => K (decide (z94 = z95)) else K false else K false else K false else K false else K false else K false
theorem e_law10_ExprMakes (p : Par) (x_ref10_Large : Ty_ref10_Large) (x_law10_lives : Ty_law10_lives) (x_expr_Lit : Ty_expr_Lit) (x_ref10_Lit : Ty_ref10_Lit) (x_ref10_Same : Ty_ref10_Same) (x_expr_Column : Ty_expr_Column) (x_ref10_Column : Ty_ref10_Column) (x_expr_Op : Ty_expr_Op) (x_ref10_Op : Ty_ref10_Op) (x_expr_Agg : Ty_expr_Agg) (x_expr_Same : Ty_expr_Same) (x_expr_Arity : Ty_expr_Arity) (x_ref10_Arity : Ty_ref10_Arity) (v_a0 : Int) (v_a1 : Int) (v_a2 : Int) (v_a3 : Int) (v_a4 : ByteArray) (v_a5 : ByteArray) (v_a6 : ByteArray) (v_a7 : List (List Dat)) (v_b0 : Int) (v_b1 : Int) (v_b2 : Int) (v_b3 : Int) (v_b4 : ByteArray) (v_b5 : ByteArray) (v_b6 : ByteArray) (v_b7 : List (List Dat)) (v_n : Int) (v_v0 : Int) (v_v1 : Int) (v_v2 : ByteArray) (v_tab : ByteArray) (v_col : ByteArray) (γ : Type) (K : List Ent × Sig → Option γ) : evFK (cfg p) (T_law10_ExprMakes x_ref10_Large x_law10_lives x_expr_Lit x_ref10_Lit x_ref10_Same x_expr_Column x_ref10_Column x_expr_Op x_ref10_Op x_expr_Agg x_expr_Same x_expr_Arity x_ref10_Arity) (L_law10_ExprMakes x_ref10_Large x_law10_lives x_expr_Lit x_ref10_Lit x_ref10_Same x_expr_Column x_ref10_Column x_expr_Op x_ref10_Op x_expr_Agg x_expr_Same x_expr_Arity x_ref10_Arity) 3 [AVal.agg [(Dat.int IntKind.i64 v_a0, Own.none), (Dat.int IntKind.i64 v_a1, Own.none), (Dat.int IntKind.i64 v_a2, Own.none), (Dat.int IntKind.i64 v_a3, Own.none), (Dat.str v_a4, Own.none), (Dat.str v_a5, Own.none), (Dat.str v_a6, Own.none), (Dat.sl v_a7, Own.none)], AVal.agg [(Dat.int IntKind.i64 v_b0, Own.none), (Dat.int IntKind.i64 v_b1, Own.none), (Dat.int IntKind.i64 v_b2, Own.none), (Dat.int IntKind.i64 v_b3, Own.none), (Dat.str v_b4, Own.none), (Dat.str v_b5, Own.none), (Dat.str v_b6, Own.none), (Dat.sl v_b7, Own.none)], AVal.dat (Dat.int IntKind.i64 v_n), AVal.agg [(Dat.int IntKind.i64 v_v0, Own.none), (Dat.int IntKind.i64 v_v1, Own.none), (Dat.str v_v2, Own.none)], AVal.dat (Dat.str v_tab), AVal.dat (Dat.str v_col)] [] γ K = Sp.B_law10_ExprMakes x_ref10_Large x_law10_lives x_expr_Lit x_ref10_Lit x_ref10_Same x_expr_Column x_ref10_Column x_expr_Op x_ref10_Op x_expr_Agg x_expr_Same x_expr_Arity x_ref10_Arity v_a0 v_a1 v_a2 v_a3 v_a4 v_a5 v_a6 v_a7 v_b0 v_b1 v_b2 v_b3 v_b4 v_b5 v_b6 v_b7 v_n v_v0 v_v1 v_v2 v_tab v_col γ (fun r0 => K ([(AVal.dat (Dat.bool r0), Own.none)], [])) := by kernel_rfl
def Sp.law10_ExprMakes : Ty_law10_ExprMakes := Sp.B_law10_ExprMakes Sp.ref10_Large Sp.law10_lives Sp.expr_Lit Sp.ref10_Lit (Sp.ref10_Same fuel) Sp.expr_Column Sp.ref10_Column Sp.expr_Op Sp.ref10_Op Sp.expr_Agg (Sp.expr_Same fuel) Sp.expr_Arity Sp.ref10_Arity
theorem E_law10_ExprMakes (p : Par) {F : Ent3} (hF : EntOk (cfg p) 3 F) : EntOk (cfg p) 3 (P_law10_ExprMakes Sp.law10_ExprMakes F) := by
  intro a s γ K q h
  unfold P_law10_ExprMakes at h
  split at h
  · exact body_ok (tab_call (tab_call (tab_call (tab_call (tab_call (tab_call (tab_call (tab_call (tab_call (tab_call (tab_call (tab_call (tab_call (tab_nil _) (E_ref10_Large p (ent_none _ _))) (E_law10_lives p (ent_none _ _))) (E_expr_Lit p (ent_none _ _))) (E_ref10_Lit p (ent_none _ _))) (E_ref10_Same p fuel (ent_none _ _))) (E_expr_Column p (ent_none _ _))) (E_ref10_Column p (ent_none _ _))) (E_expr_Op p (ent_none _ _))) (E_ref10_Op p (ent_none _ _))) (E_expr_Agg p (ent_none _ _))) (E_expr_Same p fuel (ent_none _ _))) (E_expr_Arity p (ent_none _ _))) (E_ref10_Arity p (ent_none _ _))) rfl ((e_law10_ExprMakes p _ _ _ _ _ _ _ _ _ _ _ _ _ _ _ _ _ _ _ _ _ _ _ _ _ _ _ _ _ _ _ _ _ _ _ _ _).trans h)
  · exact hF _ _ _ _ _ h
end
end Go.Proofs.YthbieolladlihaaDoor

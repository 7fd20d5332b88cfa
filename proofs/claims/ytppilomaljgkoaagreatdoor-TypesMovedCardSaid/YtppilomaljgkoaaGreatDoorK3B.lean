/- What the functions of this program compute, printed by a program. -/
import Derived.Test.YtppilomaljgkoaaGreatDoorK3
import Derived.KernelRfl
set_option linter.unusedVariables false
namespace Go.Proofs.YtppilomaljgkoaaGreatDoor
open Go Go.Aev Go.RowKit
open Go.Aev.AVal (dat agg)
open Go.Aev.Dat (int str sl)
open Go.IntKind (i64)
noncomputable section
abbrev Ty_law14_TypesFinds : Type 1 := List (List Dat) → ByteArray → ByteArray → (γ : Type) → (Bool → Option γ) → Option γ
def P_law14_TypesFinds (X : Ty_law14_TypesFinds) (F : Ent3) : Ent3 := fun a s γ K => match a, s with
  | [dat (sl v_cols), dat (str v_tab), dat (str v_col)], [] => X v_cols v_tab v_col γ (fun r0 => K ([(dat (Dat.bool r0), Own.none)], []))
  | a, s => F a s γ K
def T_law14_TypesFinds (x_law14_large : Ty_law14_large) (x_law14_lives : Ty_law14_lives) (x_types_Find : Ty_types_Find) (x_ref14_Find : Ty_ref14_Find) : CallK := (addK (addK (addK (addK noneK 8 (P_law14_large x_law14_large none3)) 9 (P_law14_lives x_law14_lives none3)) 10 (P_types_Find x_types_Find none3)) 11 (P_ref14_Find x_ref14_Find none3))
def L_law14_TypesFinds (x_law14_large : Ty_law14_large) (x_law14_lives : Ty_law14_lives) (x_types_Find : Ty_types_Find) (x_ref14_Find : Ty_ref14_Find) : LoopK := noneL
def Sp.B_law14_TypesFinds (x_law14_large : Ty_law14_large) (x_law14_lives : Ty_law14_lives) (x_types_Find : Ty_types_Find) (x_ref14_Find : Ty_ref14_Find) (v_cols : List (List Dat)) (v_tab v_col : ByteArray) (γ : Type) (K : Bool → Option γ) : Option γ := x_law14_large v_cols γ fun z5 => bif z5 then x_law14_lives γ fun z6 => K z6 else bif decide (500 < Int.ofNat (ByteArray.size v_tab)) then x_law14_lives γ fun z7 => K z7 else bif decide (500 < Int.ofNat (ByteArray.size v_col)) then x_law14_lives γ fun z8 => K z8 else x_types_Find v_cols v_tab v_col γ fun z9 z10 => x_ref14_Find v_cols v_tab v_col γ fun z11 z12 => x_law14_lives γ fun z13 => bif z13 then bif decide (z9 = z11) then bif decide (z10 = 0) == z12 then bif z12 then K true else K (decide (z10 = 140)) else K false else K false else K false
theorem e_law14_TypesFinds (p : Par) (x_law14_large x_law14_lives x_types_Find x_ref14_Find v_cols v_tab v_col) (γ : Type) (K : List Ent × Sig → Option γ) : evFK (cfg p) (T_law14_TypesFinds x_law14_large x_law14_lives x_types_Find x_ref14_Find) (L_law14_TypesFinds x_law14_large x_law14_lives x_types_Find x_ref14_Find) 3 [dat (sl v_cols), dat (str v_tab), dat (str v_col)] [] γ K = Sp.B_law14_TypesFinds x_law14_large x_law14_lives x_types_Find x_ref14_Find v_cols v_tab v_col γ (fun r0 => K ([(dat (Dat.bool r0), Own.none)], [])) := by kernel_rfl
def Sp.law14_TypesFinds : Ty_law14_TypesFinds := Sp.B_law14_TypesFinds Sp.law14_large Sp.law14_lives Sp.types_Find Sp.ref14_Find
theorem E_law14_TypesFinds (p : Par) {F : Ent3} (hF : EntOk (cfg p) 3 F) : EntOk (cfg p) 3 (P_law14_TypesFinds Sp.law14_TypesFinds F) := by
  intro a s γ K q h
  unfold P_law14_TypesFinds at h
  split at h
  · exact body_ok (tab_call (tab_call (tab_call (tab_call (tab_nil _) (E_law14_large p (ent_none _ _))) (E_law14_lives p (ent_none _ _))) (E_types_Find p (ent_none _ _))) (E_ref14_Find p (ent_none _ _))) rfl ((e_law14_TypesFinds p _ _ _ _ _ _ _ _ _).trans h)
  · exact hF _ _ _ _ _ h
abbrev Ty_ref10_large : Type 1 := Int → Int → Int → Int → ByteArray → ByteArray → ByteArray → List (List Dat) → Int → Int → (γ : Type) → (Bool → Int → Option γ) → Option γ
def P_ref10_large (X : Ty_ref10_large) (F : Ent3) : Ent3 := fun a s γ K => match a, s with
  | [agg [(int i64 v_e0, Own.none), (int i64 v_e1, Own.none), (int i64 v_e2, Own.none), (int i64 v_e3, Own.none), (str v_e4, Own.none), (str v_e5, Own.none), (str v_e6, Own.none), (sl v_e7, Own.none)], dat (int i64 v_deep), AVal.ref 0 0], [Box.cells [dat (int i64 b)]] => X v_e0 v_e1 v_e2 v_e3 v_e4 v_e5 v_e6 v_e7 v_deep b γ (fun r0 r1 => K ([(dat (Dat.bool r0), Own.none)], [Box.cells [dat (int i64 r1)]]))
  | a, s => F a s γ K
abbrev Ty_ref10_large_L0 : Type 1 := Int → Bool → Int → Int → Int → Int → Int → ByteArray → ByteArray → ByteArray → List (List Dat) → Int → (γ : Type) → (Ex → Bool → Int → Int → Int → Int → Int → ByteArray → ByteArray → ByteArray → List (List Dat) → Int → Option γ) → Option γ
def P_ref10_large_L0 (X : Ty_ref10_large_L0) (F : Loop3) : Loop3 := fun a s γ K => match a, s with
  | [dat (int i64 v_deep), AVal.ref 0 0, AVal.loc 3 0], ([dat (Dat.bool v_), dat (int i64 v_i), agg [(int i64 w0, Own.none), (int i64 w1, Own.none), (int i64 w2, Own.none), (int i64 w3, Own.none), (str w4, Own.none), (str w5, Own.none), (str w6, Own.none), (sl w7, Own.none)]], [Box.cells [dat (int i64 b)]]) => X v_deep v_ v_i w0 w1 w2 w3 w4 w5 w6 w7 b γ (fun e x0 x1 x2 x3 x4 x5 x6 x7 x8 x9 x10 => K (e, ([dat (Dat.bool x0), dat (int i64 x1), agg [(int i64 x2, Own.none), (int i64 x3, Own.none), (int i64 x4, Own.none), (int i64 x5, Own.none), (str x6, Own.none), (str x7, Own.none), (str x8, Own.none), (sl x9, Own.none)]], [Box.cells [dat (int i64 x10)]])))
  | a, s => F a s γ K
def T_ref10_large_L0 (x_ref10_large : Ty_ref10_large) : CallK := (addK noneK 29 (P_ref10_large x_ref10_large none3))
def L_ref10_large_L0 (x_ref10_large : Ty_ref10_large) : LoopK := noneL
def Sp.B_ref10_large_L0 (x_ref10_large_L0 : Ty_ref10_large_L0) (x_ref10_large : Ty_ref10_large) (v_deep : Int) (v_ : Bool) (v_i w0 w1 w2 w3 : Int) (w4 w5 w6 : ByteArray) (w7 : List (List Dat)) (b : Int) (γ : Type) (K : Ex → Bool → Int → Int → Int → Int → Int → ByteArray → ByteArray → ByteArray → List (List Dat) → Int → Option γ) : Option γ := bif decide (v_i < Int.ofNat (List.length w7)) then elemAt w7 v_i fun z14 => bif List.length z14 == 8 then cellAt z14 0 fun z15 => Aev.asInt i64 z15 fun z16 => cellAt z14 1 fun z17 => Aev.asInt i64 z17 fun z18 => cellAt z14 2 fun z19 => Aev.asInt i64 z19 fun z20 => cellAt z14 3 fun z21 => Aev.asInt i64 z21 fun z22 => cellAt z14 4 fun z23 => asStr z23 fun z24 => cellAt z14 5 fun z25 => asStr z25 fun z26 => cellAt z14 6 fun z27 => asStr z27 fun z28 => cellAt z14 7 fun z29 => asSl z29 fun z30 => x_ref10_large z16 z18 z20 z22 z24 z26 z28 z30 (IntKind.wrap i64 (v_deep + 1)) b γ fun z31 z32 => bif z31 then K Ex.ret true v_i w0 w1 w2 w3 w4 w5 w6 w7 z32 else x_ref10_large_L0 v_deep v_ (IntKind.wrap i64 (v_i + 1)) w0 w1 w2 w3 w4 w5 w6 w7 z32 γ K else none else K (Ex.exit 0) v_ v_i w0 w1 w2 w3 w4 w5 w6 w7 b
theorem e_ref10_large_L0 (p : Par) (x_ref10_large_L0 : Ty_ref10_large_L0) (x_ref10_large v_deep v_ v_i w0 w1 w2 w3 w4 w5 w6 w7 b) (γ : Type) (K : Ex × Vars → Option γ) : roundK (cfg p) (T_ref10_large_L0 x_ref10_large) (L_ref10_large_L0 x_ref10_large) 29 0 [dat (int i64 v_deep), AVal.ref 0 0, AVal.loc 3 0] ([dat (Dat.bool v_), dat (int i64 v_i), agg [(int i64 w0, Own.none), (int i64 w1, Own.none), (int i64 w2, Own.none), (int i64 w3, Own.none), (str w4, Own.none), (str w5, Own.none), (str w6, Own.none), (sl w7, Own.none)]], [Box.cells [dat (int i64 b)]]) γ (contL (fun v => P_ref10_large_L0 x_ref10_large_L0 noneL3 [dat (int i64 v_deep), AVal.ref 0 0, AVal.loc 3 0] v γ K) K) = Sp.B_ref10_large_L0 x_ref10_large_L0 x_ref10_large v_deep v_ v_i w0 w1 w2 w3 w4 w5 w6 w7 b γ (fun e x0 x1 x2 x3 x4 x5 x6 x7 x8 x9 x10 => K (e, ([dat (Dat.bool x0), dat (int i64 x1), agg [(int i64 x2, Own.none), (int i64 x3, Own.none), (int i64 x4, Own.none), (int i64 x5, Own.none), (str x6, Own.none), (str x7, Own.none), (str x8, Own.none), (sl x9, Own.none)]], [Box.cells [dat (int i64 x10)]]))) := by kernel_rfl
def T_ref10_large (x_ref10_large_L0 : Ty_ref10_large_L0) : CallK := noneK
def L_ref10_large (x_ref10_large_L0 : Ty_ref10_large_L0) : LoopK := (addL noneL 29 0 (P_ref10_large_L0 x_ref10_large_L0 noneL3))
def Sp.B_ref10_large (x_ref10_large_L0 : Ty_ref10_large_L0) (v_e0 v_e1 v_e2 v_e3 : Int) (v_e4 v_e5 v_e6 : ByteArray) (v_e7 : List (List Dat)) (v_deep b : Int) (γ : Type) (K : Bool → Int → Option γ) : Option γ := bif decide (60 < v_deep) then K true (IntKind.wrap i64 (b + 1)) else bif decide (1000 < IntKind.wrap i64 (b + 1)) then K true (IntKind.wrap i64 (b + 1)) else bif decide (200 < Int.ofNat (ByteArray.size v_e5)) then K true (IntKind.wrap i64 (b + 1)) else bif decide (200 < Int.ofNat (ByteArray.size v_e6)) then K true (IntKind.wrap i64 (b + 1)) else bif decide (500 < Int.ofNat (ByteArray.size v_e4)) then K true (IntKind.wrap i64 (b + 1)) else x_ref10_large_L0 v_deep false 0 v_e0 v_e1 v_e2 v_e3 v_e4 v_e5 v_e6 v_e7 (IntKind.wrap i64 (b + 1)) γ fun z12 z13 z14 z15 z16 z17 z18 z19 z20 z21 z22 z23 => bif Ex.isExit z12 0 then K false z23 else bif Ex.isRet z12 then K z13 z23 else none
theorem e_ref10_large (p : Par) (x_ref10_large_L0 v_e0 v_e1 v_e2 v_e3 v_e4 v_e5 v_e6 v_e7 v_deep b) (γ : Type) (K : List Ent × Sig → Option γ) : evFK (cfg p) (T_ref10_large x_ref10_large_L0) (L_ref10_large x_ref10_large_L0) 29 [agg [(int i64 v_e0, Own.none), (int i64 v_e1, Own.none), (int i64 v_e2, Own.none), (int i64 v_e3, Own.none), (str v_e4, Own.none), (str v_e5, Own.none), (str v_e6, Own.none), (sl v_e7, Own.none)], dat (int i64 v_deep), AVal.ref 0 0] [Box.cells [dat (int i64 b)]] γ K = Sp.B_ref10_large x_ref10_large_L0 v_e0 v_e1 v_e2 v_e3 v_e4 v_e5 v_e6 v_e7 v_deep b γ (fun r0 r1 => K ([(dat (Dat.bool r0), Own.none)], [Box.cells [dat (int i64 r1)]])) := by kernel_rfl
def Sp.ref10_large_L0 (R_ref10_large : Ty_ref10_large) : Nat → Ty_ref10_large_L0
  | 0 => fun _ _ _ _ _ _ _ _ _ _ _ _ _ _ => none
  | n + 1 => Sp.B_ref10_large_L0 (Sp.ref10_large_L0 R_ref10_large n) R_ref10_large
theorem E0_ref10_large_L0 (p : Par) (R_ref10_large : Ty_ref10_large) (h_ref10_large : ∀ {F : Ent3}, EntOk (cfg p) 29 F → EntOk (cfg p) 29 (P_ref10_large R_ref10_large F)) : ∀ n, EntOkL (cfg p) 29 0 (P_ref10_large_L0 (Sp.ref10_large_L0 R_ref10_large n) noneL3) := entL_rounds (tab_call (tab_nil _) (h_ref10_large (ent_none _ _))) (by kernel_rfl) (fun c v γ K => by unfold P_ref10_large_L0; split <;> rfl) fun n c v γ K q h => by
  unfold P_ref10_large_L0 at h
  split at h
  · exact (e_ref10_large_L0 p _ _ _ _ _ _ _ _ _ _ _ _ _ _ _ _).trans h
  · cases h
theorem E_ref10_large_L0 (p : Par) (R_ref10_large : Ty_ref10_large) (h_ref10_large : ∀ {F : Ent3}, EntOk (cfg p) 29 F → EntOk (cfg p) 29 (P_ref10_large R_ref10_large F)) (n : Nat) {F : Loop3} (hF : EntOkL (cfg p) 29 0 F) : EntOkL (cfg p) 29 0 (P_ref10_large_L0 (Sp.ref10_large_L0 R_ref10_large n) F) := by
  intro c v γ K q h
  unfold P_ref10_large_L0 at h
  split at h
  · exact E0_ref10_large_L0 p R_ref10_large h_ref10_large n _ _ _ _ _ h
  · exact hF _ _ _ _ _ h
def Sp.ref10_large : Nat → Ty_ref10_large
  | 0 => fun _ _ _ _ _ _ _ _ _ _ _ _ => none
  | n + 1 => Sp.B_ref10_large (Sp.ref10_large_L0 (Sp.ref10_large n) fuel)
theorem G61_ok (p : Par) (n : Nat) : (∀ {F : Ent3}, EntOk (cfg p) 29 F → EntOk (cfg p) 29 (P_ref10_large (Sp.ref10_large n) F)) := by
  induction n with
  | zero =>
    refine ?_
    · intro F hF a s γ K q h
      unfold P_ref10_large at h
      split at h
      · cases h
      · exact hF _ _ _ _ _ h
  | succ n ih =>
    refine ?_
    · intro F hF a s γ K q h
      unfold P_ref10_large at h
      split at h
      · exact body_ok (tab_loop (tab_nil _) (E_ref10_large_L0 p (Sp.ref10_large n) ih fuel (entL_none _ _ _))) rfl ((e_ref10_large p _ _ _ _ _ _ _ _ _ _ _ _ _).trans h)
      · exact hF _ _ _ _ _ h
theorem E_ref10_large (p : Par) (n : Nat) {F : Ent3} (hF : EntOk (cfg p) 29 F) : EntOk (cfg p) 29 (P_ref10_large (Sp.ref10_large n) F) := (G61_ok p n) hF
abbrev Ty_ref10_Large : Type 1 := Int → Int → Int → Int → ByteArray → ByteArray → ByteArray → List (List Dat) → (γ : Type) → (Bool → Option γ) → Option γ
def P_ref10_Large (X : Ty_ref10_Large) (F : Ent3) : Ent3 := fun a s γ K => match a, s with
  | [agg [(int i64 v_e0, Own.none), (int i64 v_e1, Own.none), (int i64 v_e2, Own.none), (int i64 v_e3, Own.none), (str v_e4, Own.none), (str v_e5, Own.none), (str v_e6, Own.none), (sl v_e7, Own.none)]], [] => X v_e0 v_e1 v_e2 v_e3 v_e4 v_e5 v_e6 v_e7 γ (fun r0 => K ([(dat (Dat.bool r0), Own.none)], []))
  | a, s => F a s γ K
def T_ref10_Large (x_ref10_large : Ty_ref10_large) : CallK := (addK noneK 29 (P_ref10_large x_ref10_large none3))
def L_ref10_Large (x_ref10_large : Ty_ref10_large) : LoopK := noneL
def Sp.B_ref10_Large (x_ref10_large : Ty_ref10_large) (v_e0 v_e1 v_e2 v_e3 : Int) (v_e4 v_e5 v_e6 : ByteArray) (v_e7 : List (List Dat)) (γ : Type) (K : Bool → Option γ) : Option γ := x_ref10_large v_e0 v_e1 v_e2 v_e3 v_e4 v_e5 v_e6 v_e7 0 0 γ fun z10 z11 => K z10
theorem e_ref10_Large (p : Par) (x_ref10_large v_e0 v_e1 v_e2 v_e3 v_e4 v_e5 v_e6 v_e7) (γ : Type) (K : List Ent × Sig → Option γ) : evFK (cfg p) (T_ref10_Large x_ref10_large) (L_ref10_Large x_ref10_large) 12 [agg [(int i64 v_e0, Own.none), (int i64 v_e1, Own.none), (int i64 v_e2, Own.none), (int i64 v_e3, Own.none), (str v_e4, Own.none), (str v_e5, Own.none), (str v_e6, Own.none), (sl v_e7, Own.none)]] [] γ K = Sp.B_ref10_Large x_ref10_large v_e0 v_e1 v_e2 v_e3 v_e4 v_e5 v_e6 v_e7 γ (fun r0 => K ([(dat (Dat.bool r0), Own.none)], [])) := by kernel_rfl
def Sp.ref10_Large : Ty_ref10_Large := Sp.B_ref10_Large (Sp.ref10_large fuel)
theorem E_ref10_Large (p : Par) {F : Ent3} (hF : EntOk (cfg p) 12 F) : EntOk (cfg p) 12 (P_ref10_Large Sp.ref10_Large F) := by
  intro a s γ K q h
  unfold P_ref10_Large at h
  split at h
  · exact body_ok (tab_call (tab_nil _) (E_ref10_large p fuel (ent_none _ _))) rfl ((e_ref10_Large p _ _ _ _ _ _ _ _ _ _ _).trans h)
  · exact hF _ _ _ _ _ h
abbrev Ty_ref01_Check : Type 1 := Int → Int → ByteArray → (γ : Type) → (Bool → Option γ) → Option γ
def P_ref01_Check (X : Ty_ref01_Check) (F : Ent3) : Ent3 := fun a s γ K => match a, s with
  | [agg [(int i64 v_v0, Own.none), (int i64 v_v1, Own.none), (str v_v2, Own.none)]], [] => X v_v0 v_v1 v_v2 γ (fun r0 => K ([(dat (Dat.bool r0), Own.none)], []))
  | a, s => F a s γ K
def T_ref01_Check : CallK := noneK
def L_ref01_Check : LoopK := noneL
def Sp.B_ref01_Check (v_v0 v_v1 : Int) (v_v2 : ByteArray) (γ : Type) (K : Bool → Option γ) : Option γ := bif decide (v_v0 = 0) then bif decide (v_v1 = 0) then K (decide (v_v2 = bs [])) else K false else bif decide (v_v0 = 1) then bif decide (v_v1 = 0) then K (decide (v_v2 = bs [])) else bif decide (v_v1 = 1) then K (decide (v_v2 = bs [])) else K false else bif decide (v_v0 = 2) then bif decide (-9007199254740991 ≤ v_v1) then bif decide (v_v1 ≤ 9007199254740991) then K (decide (v_v2 = bs [])) else K false else K false else bif decide (v_v0 = 3) then bif decide (v_v1 = 0) then K (decide (Int.ofNat (ByteArray.size v_v2) ≤ 64)) else K false else K false
theorem e_ref01_Check (p : Par) (v_v0 v_v1 v_v2) (γ : Type) (K : List Ent × Sig → Option γ) : evFK (cfg p) (T_ref01_Check) (L_ref01_Check) 74 [agg [(int i64 v_v0, Own.none), (int i64 v_v1, Own.none), (str v_v2, Own.none)]] [] γ K = Sp.B_ref01_Check v_v0 v_v1 v_v2 γ (fun r0 => K ([(dat (Dat.bool r0), Own.none)], [])) := by kernel_rfl
def Sp.ref01_Check : Ty_ref01_Check := Sp.B_ref01_Check 
theorem E_ref01_Check (p : Par) {F : Ent3} (hF : EntOk (cfg p) 74 F) : EntOk (cfg p) 74 (P_ref01_Check Sp.ref01_Check F) := by
  intro a s γ K q h
  unfold P_ref01_Check at h
  split at h
  · exact body_ok (tab_nil _) rfl ((e_ref01_Check p _ _ _ _ _).trans h)
  · exact hF _ _ _ _ _ h
abbrev Ty_ref09_digit : Type 1 := Int → (γ : Type) → (Bool → Option γ) → Option γ
def P_ref09_digit (X : Ty_ref09_digit) (F : Ent3) : Ent3 := fun a s γ K => match a, s with
  | [dat (Dat.int IntKind.u8 v_c)], [] => X v_c γ (fun r0 => K ([(dat (Dat.bool r0), Own.none)], []))
  | a, s => F a s γ K
def T_ref09_digit : CallK := noneK
def L_ref09_digit : LoopK := noneL
def Sp.B_ref09_digit (v_c : Int) (γ : Type) (K : Bool → Option γ) : Option γ := bif decide (48 ≤ v_c) then K (decide (v_c ≤ 57)) else K false
theorem e_ref09_digit (p : Par) (v_c) (γ : Type) (K : List Ent × Sig → Option γ) : evFK (cfg p) (T_ref09_digit) (L_ref09_digit) 91 [dat (Dat.int IntKind.u8 v_c)] [] γ K = Sp.B_ref09_digit v_c γ (fun r0 => K ([(dat (Dat.bool r0), Own.none)], [])) := by kernel_rfl
def Sp.ref09_digit : Ty_ref09_digit := Sp.B_ref09_digit 
theorem E_ref09_digit (p : Par) {F : Ent3} (hF : EntOk (cfg p) 91 F) : EntOk (cfg p) 91 (P_ref09_digit Sp.ref09_digit F) := by
  intro a s γ K q h
  unfold P_ref09_digit at h
  split at h
  · exact body_ok (tab_nil _) rfl ((e_ref09_digit p _ _ _).trans h)
  · exact hF _ _ _ _ _ h
abbrev Ty_ref09_Keys : Type 1 := (γ : Type) → (List (List Dat) → Option γ) → Option γ
def P_ref09_Keys (X : Ty_ref09_Keys) (F : Ent3) : Ent3 := fun a s γ K => match a, s with
  | [], [] => X γ (fun r0 => K ([(dat (sl r0), Own.none)], []))
  | a, s => F a s γ K
def T_ref09_Keys : CallK := noneK
def L_ref09_Keys : LoopK := noneL
def Sp.B_ref09_Keys (γ : Type) (K : List (List Dat) → Option γ) : Option γ := K [[str (bs [65, 76, 76])], [str (bs [65, 78, 68])], [str (bs [65, 78, 84, 73])], [str (bs [65, 83])], [str (bs [66, 89])], [str (bs [67, 79, 85, 78, 84])], [str (bs [68, 69, 83, 67])], [str (bs [68, 73, 83, 84, 73, 78, 67, 84])], [str (bs [70, 65, 76, 83, 69])], [str (bs [70, 82, 79, 77])], [str (bs [71, 82, 79, 85, 80])], [str (bs [73, 83])], [str (bs [74, 79, 73, 78])], [str (bs [76, 69, 70, 84])], [str (bs [76, 73, 77, 73, 84])], [str (bs [77, 65, 88])], [str (bs [77, 73, 78])], [str (bs [78, 79, 84])], [str (bs [78, 85, 76, 76])], [str (bs [79, 78])], [str (bs [79, 82])], [str (bs [79, 82, 68, 69, 82])], [str (bs [83, 69, 76, 69, 67, 84])], [str (bs [83, 69, 77, 73])], [str (bs [83, 85, 77])], [str (bs [84, 82, 85, 69])], [str (bs [85, 78, 73, 79, 78])], [str (bs [87, 72, 69, 82, 69])]]
theorem e_ref09_Keys (p : Par)  (γ : Type) (K : List Ent × Sig → Option γ) : evFK (cfg p) (T_ref09_Keys) (L_ref09_Keys) 101 [] [] γ K = Sp.B_ref09_Keys γ (fun r0 => K ([(dat (sl r0), Own.none)], [])) := by kernel_rfl
def Sp.ref09_Keys : Ty_ref09_Keys := Sp.B_ref09_Keys 
theorem E_ref09_Keys (p : Par) {F : Ent3} (hF : EntOk (cfg p) 101 F) : EntOk (cfg p) 101 (P_ref09_Keys Sp.ref09_Keys F) := by
  intro a s γ K q h
  unfold P_ref09_Keys at h
  split at h
  · exact body_ok (tab_nil _) rfl ((e_ref09_Keys p _ _).trans h)
  · exact hF _ _ _ _ _ h
abbrev Ty_ref09_Key_L0 : Type 1 := ByteArray → List (List Dat) → Bool → Int → (γ : Type) → (Ex → Bool → Int → Option γ) → Option γ
def P_ref09_Key_L0 (X : Ty_ref09_Key_L0) (F : Loop3) : Loop3 := fun a s γ K => match a, s with
  | [dat (str v_word), dat (sl v_l)], ([dat (Dat.bool v_), dat (int i64 v_i)], []) => X v_word v_l v_ v_i γ (fun e x0 x1 => K (e, ([dat (Dat.bool x0), dat (int i64 x1)], [])))
  | a, s => F a s γ K
def T_ref09_Key_L0 : CallK := noneK
def L_ref09_Key_L0 : LoopK := noneL
def Sp.B_ref09_Key_L0 (x_ref09_Key_L0 : Ty_ref09_Key_L0)  (v_word : ByteArray) (v_l : List (List Dat)) (v_ : Bool) (v_i : Int) (γ : Type) (K : Ex → Bool → Int → Option γ) : Option γ := bif decide (v_i < Int.ofNat (List.length v_l)) then elemAt v_l v_i fun z6 => bif List.length z6 == 1 then cellAt z6 0 fun z7 => asStr z7 fun z8 => bif decide (z8 = v_word) then K Ex.ret true v_i else x_ref09_Key_L0 v_word v_l v_ (IntKind.wrap i64 (v_i + 1)) γ K else none else K (Ex.exit 0) v_ v_i
theorem e_ref09_Key_L0 (p : Par) (x_ref09_Key_L0 : Ty_ref09_Key_L0) (v_word v_l v_ v_i) (γ : Type) (K : Ex × Vars → Option γ) : roundK (cfg p) (T_ref09_Key_L0) (L_ref09_Key_L0) 92 0 [dat (str v_word), dat (sl v_l)] ([dat (Dat.bool v_), dat (int i64 v_i)], []) γ (contL (fun v => P_ref09_Key_L0 x_ref09_Key_L0 noneL3 [dat (str v_word), dat (sl v_l)] v γ K) K) = Sp.B_ref09_Key_L0 x_ref09_Key_L0 v_word v_l v_ v_i γ (fun e x0 x1 => K (e, ([dat (Dat.bool x0), dat (int i64 x1)], []))) := by kernel_rfl
def Sp.ref09_Key_L0 : Nat → Ty_ref09_Key_L0
  | 0 => fun _ _ _ _ _ _ => none
  | n + 1 => Sp.B_ref09_Key_L0 (Sp.ref09_Key_L0 n) 
theorem E0_ref09_Key_L0 (p : Par)   : ∀ n, EntOkL (cfg p) 92 0 (P_ref09_Key_L0 (Sp.ref09_Key_L0 n) noneL3) := entL_rounds (tab_nil _) (by kernel_rfl) (fun c v γ K => by unfold P_ref09_Key_L0; split <;> rfl) fun n c v γ K q h => by
  unfold P_ref09_Key_L0 at h
  split at h
  · exact (e_ref09_Key_L0 p _ _ _ _ _ _ _).trans h
  · cases h
theorem E_ref09_Key_L0 (p : Par)   (n : Nat) {F : Loop3} (hF : EntOkL (cfg p) 92 0 F) : EntOkL (cfg p) 92 0 (P_ref09_Key_L0 (Sp.ref09_Key_L0 n) F) := by
  intro c v γ K q h
  unfold P_ref09_Key_L0 at h
  split at h
  · exact E0_ref09_Key_L0 p n _ _ _ _ _ h
  · exact hF _ _ _ _ _ h
abbrev Ty_ref09_Key : Type 1 := ByteArray → (γ : Type) → (Bool → Option γ) → Option γ
def P_ref09_Key (X : Ty_ref09_Key) (F : Ent3) : Ent3 := fun a s γ K => match a, s with
  | [dat (str v_word)], [] => X v_word γ (fun r0 => K ([(dat (Dat.bool r0), Own.none)], []))
  | a, s => F a s γ K
def T_ref09_Key (x_ref09_Keys : Ty_ref09_Keys) (x_ref09_Key_L0 : Ty_ref09_Key_L0) : CallK := (addK noneK 101 (P_ref09_Keys x_ref09_Keys none3))
def L_ref09_Key (x_ref09_Keys : Ty_ref09_Keys) (x_ref09_Key_L0 : Ty_ref09_Key_L0) : LoopK := (addL noneL 92 0 (P_ref09_Key_L0 x_ref09_Key_L0 noneL3))
def Sp.B_ref09_Key (x_ref09_Keys : Ty_ref09_Keys) (x_ref09_Key_L0 : Ty_ref09_Key_L0) (v_word : ByteArray) (γ : Type) (K : Bool → Option γ) : Option γ := x_ref09_Keys γ fun z3 => x_ref09_Key_L0 v_word z3 false 0 γ fun z4 z5 z6 => bif Ex.isExit z4 0 then K false else bif Ex.isRet z4 then K z5 else none
theorem e_ref09_Key (p : Par) (x_ref09_Keys x_ref09_Key_L0 v_word) (γ : Type) (K : List Ent × Sig → Option γ) : evFK (cfg p) (T_ref09_Key x_ref09_Keys x_ref09_Key_L0) (L_ref09_Key x_ref09_Keys x_ref09_Key_L0) 92 [dat (str v_word)] [] γ K = Sp.B_ref09_Key x_ref09_Keys x_ref09_Key_L0 v_word γ (fun r0 => K ([(dat (Dat.bool r0), Own.none)], [])) := by kernel_rfl
def Sp.ref09_Key : Ty_ref09_Key := Sp.B_ref09_Key Sp.ref09_Keys (Sp.ref09_Key_L0 fuel)
theorem E_ref09_Key (p : Par) {F : Ent3} (hF : EntOk (cfg p) 92 F) : EntOk (cfg p) 92 (P_ref09_Key Sp.ref09_Key F) := by
  intro a s γ K q h
  unfold P_ref09_Key at h
  split at h
  · exact body_ok (tab_loop (tab_call (tab_nil _) (E_ref09_Keys p (ent_none _ _))) (E_ref09_Key_L0 p fuel (entL_none _ _ _))) rfl ((e_ref09_Key p _ _ _ _ _).trans h)
  · exact hF _ _ _ _ _ h
abbrev Ty_ref09_letter : Type 1 := Int → (γ : Type) → (Bool → Option γ) → Option γ
def P_ref09_letter (X : Ty_ref09_letter) (F : Ent3) : Ent3 := fun a s γ K => match a, s with
  | [dat (Dat.int IntKind.u8 v_c)], [] => X v_c γ (fun r0 => K ([(dat (Dat.bool r0), Own.none)], []))
  | a, s => F a s γ K
def T_ref09_letter : CallK := noneK
def L_ref09_letter : LoopK := noneL
def Sp.B_ref09_letter (v_c : Int) (γ : Type) (K : Bool → Option γ) : Option γ := bif decide (97 ≤ v_c) then bif decide (v_c ≤ 122) then K true else bif decide (65 ≤ v_c) then bif decide (v_c ≤ 90) then K true else K (decide (v_c = 95)) else K (decide (v_c = 95)) else bif decide (65 ≤ v_c) then bif decide (v_c ≤ 90) then K true else K (decide (v_c = 95)) else K (decide (v_c = 95))
theorem e_ref09_letter (p : Par) (v_c) (γ : Type) (K : List Ent × Sig → Option γ) : evFK (cfg p) (T_ref09_letter) (L_ref09_letter) 93 [dat (Dat.int IntKind.u8 v_c)] [] γ K = Sp.B_ref09_letter v_c γ (fun r0 => K ([(dat (Dat.bool r0), Own.none)], [])) := by kernel_rfl
def Sp.ref09_letter : Ty_ref09_letter := Sp.B_ref09_letter 
theorem E_ref09_letter (p : Par) {F : Ent3} (hF : EntOk (cfg p) 93 F) : EntOk (cfg p) 93 (P_ref09_letter Sp.ref09_letter F) := by
  intro a s γ K q h
  unfold P_ref09_letter at h
  split at h
  · exact body_ok (tab_nil _) rfl ((e_ref09_letter p _ _ _).trans h)
  · exact hF _ _ _ _ _ h
abbrev Ty_ref09_Name_L0 : Type 1 := ByteArray → Bool → Int → (γ : Type) → (Ex → Bool → Int → Option γ) → Option γ
def P_ref09_Name_L0 (X : Ty_ref09_Name_L0) (F : Loop3) : Loop3 := fun a s γ K => match a, s with
  | [dat (str v_s)], ([dat (Dat.bool v_), dat (int i64 v_i)], []) => X v_s v_ v_i γ (fun e x0 x1 => K (e, ([dat (Dat.bool x0), dat (int i64 x1)], [])))
  | a, s => F a s γ K
def T_ref09_Name_L0 (x_ref09_letter : Ty_ref09_letter) (x_ref09_digit : Ty_ref09_digit) : CallK := (addK (addK noneK 93 (P_ref09_letter x_ref09_letter none3)) 91 (P_ref09_digit x_ref09_digit none3))
def L_ref09_Name_L0 (x_ref09_letter : Ty_ref09_letter) (x_ref09_digit : Ty_ref09_digit) : LoopK := noneL
def Sp.B_ref09_Name_L0 (x_ref09_Name_L0 : Ty_ref09_Name_L0) (x_ref09_letter : Ty_ref09_letter) (x_ref09_digit : Ty_ref09_digit) (v_s : ByteArray) (v_ : Bool) (v_i : Int) (γ : Type) (K : Ex → Bool → Int → Option γ) : Option γ := bif decide (v_i < Int.ofNat (ByteArray.size v_s)) then byteAt v_s v_i fun z5 => x_ref09_letter (Int.ofNat (BitVec.toFin (UInt8.toBitVec z5)).1) γ fun z6 => bif !z6 then byteAt v_s v_i fun z7 => x_ref09_digit (Int.ofNat (BitVec.toFin (UInt8.toBitVec z7)).1) γ fun z8 => bif !z8 then K Ex.ret false v_i else x_ref09_Name_L0 v_s v_ (IntKind.wrap i64 (v_i + 1)) γ K else x_ref09_Name_L0 v_s v_ (IntKind.wrap i64 (v_i + 1)) γ K else K (Ex.exit 0) v_ v_i
theorem e_ref09_Name_L0 (p : Par) (x_ref09_Name_L0 : Ty_ref09_Name_L0) (x_ref09_letter x_ref09_digit v_s v_ v_i) (γ : Type) (K : Ex × Vars → Option γ) : roundK (cfg p) (T_ref09_Name_L0 x_ref09_letter x_ref09_digit) (L_ref09_Name_L0 x_ref09_letter x_ref09_digit) 75 0 [dat (str v_s)] ([dat (Dat.bool v_), dat (int i64 v_i)], []) γ (contL (fun v => P_ref09_Name_L0 x_ref09_Name_L0 noneL3 [dat (str v_s)] v γ K) K) = Sp.B_ref09_Name_L0 x_ref09_Name_L0 x_ref09_letter x_ref09_digit v_s v_ v_i γ (fun e x0 x1 => K (e, ([dat (Dat.bool x0), dat (int i64 x1)], []))) := by kernel_rfl
def Sp.ref09_Name_L0 : Nat → Ty_ref09_Name_L0
  | 0 => fun _ _ _ _ _ => none
  | n + 1 => Sp.B_ref09_Name_L0 (Sp.ref09_Name_L0 n) Sp.ref09_letter Sp.ref09_digit
theorem E0_ref09_Name_L0 (p : Par)   : ∀ n, EntOkL (cfg p) 75 0 (P_ref09_Name_L0 (Sp.ref09_Name_L0 n) noneL3) := entL_rounds (tab_call (tab_call (tab_nil _) (E_ref09_letter p (ent_none _ _))) (E_ref09_digit p (ent_none _ _))) (by kernel_rfl) (fun c v γ K => by unfold P_ref09_Name_L0; split <;> rfl) fun n c v γ K q h => by
  unfold P_ref09_Name_L0 at h
  split at h
  · exact (e_ref09_Name_L0 p _ _ _ _ _ _ _ _).trans h
  · cases h
theorem E_ref09_Name_L0 (p : Par)   (n : Nat) {F : Loop3} (hF : EntOkL (cfg p) 75 0 F) : EntOkL (cfg p) 75 0 (P_ref09_Name_L0 (Sp.ref09_Name_L0 n) F) := by
  intro c v γ K q h
  unfold P_ref09_Name_L0 at h
  split at h
  · exact E0_ref09_Name_L0 p n _ _ _ _ _ h
  · exact hF _ _ _ _ _ h
abbrev Ty_ref09_Name : Type 1 := ByteArray → (γ : Type) → (Bool → Option γ) → Option γ
def P_ref09_Name (X : Ty_ref09_Name) (F : Ent3) : Ent3 := fun a s γ K => match a, s with
  | [dat (str v_s)], [] => X v_s γ (fun r0 => K ([(dat (Dat.bool r0), Own.none)], []))
  | a, s => F a s γ K
def T_ref09_Name (x_ref09_digit : Ty_ref09_digit) (x_ref09_Key : Ty_ref09_Key) (x_ref09_Name_L0 : Ty_ref09_Name_L0) : CallK := (addK (addK noneK 91 (P_ref09_digit x_ref09_digit none3)) 92 (P_ref09_Key x_ref09_Key none3))
def L_ref09_Name (x_ref09_digit : Ty_ref09_digit) (x_ref09_Key : Ty_ref09_Key) (x_ref09_Name_L0 : Ty_ref09_Name_L0) : LoopK := (addL noneL 75 0 (P_ref09_Name_L0 x_ref09_Name_L0 noneL3))
def Sp.B_ref09_Name (x_ref09_digit : Ty_ref09_digit) (x_ref09_Key : Ty_ref09_Key) (x_ref09_Name_L0 : Ty_ref09_Name_L0) (v_s : ByteArray) (γ : Type) (K : Bool → Option γ) : Option γ := bif decide (Int.ofNat (ByteArray.size v_s) < 1) then K false else bif decide (24 < Int.ofNat (ByteArray.size v_s)) then K false else byteAt v_s 0 fun z3 => x_ref09_digit (Int.ofNat (BitVec.toFin (UInt8.toBitVec z3)).1) γ fun z4 => bif z4 then K false else x_ref09_Key v_s γ fun z5 => bif z5 then K false else x_ref09_Name_L0 v_s false 0 γ fun z6 z7 z8 => bif Ex.isExit z6 0 then K true else bif Ex.isRet z6 then K z7 else none
theorem e_ref09_Name (p : Par) (x_ref09_digit x_ref09_Key x_ref09_Name_L0 v_s) (γ : Type) (K : List Ent × Sig → Option γ) : evFK (cfg p) (T_ref09_Name x_ref09_digit x_ref09_Key x_ref09_Name_L0) (L_ref09_Name x_ref09_digit x_ref09_Key x_ref09_Name_L0) 75 [dat (str v_s)] [] γ K = Sp.B_ref09_Name x_ref09_digit x_ref09_Key x_ref09_Name_L0 v_s γ (fun r0 => K ([(dat (Dat.bool r0), Own.none)], [])) := by kernel_rfl
def Sp.ref09_Name : Ty_ref09_Name := Sp.B_ref09_Name Sp.ref09_digit Sp.ref09_Key (Sp.ref09_Name_L0 fuel)
theorem E_ref09_Name (p : Par) {F : Ent3} (hF : EntOk (cfg p) 75 F) : EntOk (cfg p) 75 (P_ref09_Name Sp.ref09_Name F) := by
  intro a s γ K q h
  unfold P_ref09_Name at h
  split at h
  · exact body_ok (tab_loop (tab_call (tab_call (tab_nil _) (E_ref09_digit p (ent_none _ _))) (E_ref09_Key p (ent_none _ _))) (E_ref09_Name_L0 p fuel (entL_none _ _ _))) rfl ((e_ref09_Name p _ _ _ _ _ _).trans h)
  · exact hF _ _ _ _ _ h
abbrev Ty_ref10_Arity : Type 1 := Int → (γ : Type) → (Int → Option γ) → Option γ
def P_ref10_Arity (X : Ty_ref10_Arity) (F : Ent3) : Ent3 := fun a s γ K => match a, s with
  | [dat (int i64 v_op)], [] => X v_op γ (fun r0 => K ([(dat (int i64 r0), Own.none)], []))
  | a, s => F a s γ K
def T_ref10_Arity : CallK := noneK
def L_ref10_Arity : LoopK := noneL
def Sp.B_ref10_Arity (v_op : Int) (γ : Type) (K : Int → Option γ) : Option γ := bif decide (v_op = 3) then bif decide (v_op = 3) then K 1 else bif decide (1 ≤ v_op) then bif decide (v_op ≤ 17) then K 2 else K 0 else K 0 else bif decide (v_op = 15) then bif decide (v_op = 15) then K 1 else bif decide (1 ≤ v_op) then bif decide (v_op ≤ 17) then K 2 else K 0 else K 0 else bif decide (v_op = 16) then bif decide (v_op = 16) then K 1 else bif decide (1 ≤ v_op) then bif decide (v_op ≤ 17) then K 2 else K 0 else K 0 else bif decide (v_op = 17) then K 1 else bif decide (1 ≤ v_op) then bif decide (v_op ≤ 17) then K 2 else K 0 else K 0
theorem e_ref10_Arity (p : Par) (v_op) (γ : Type) (K : List Ent × Sig → Option γ) : evFK (cfg p) (T_ref10_Arity) (L_ref10_Arity) 76 [dat (int i64 v_op)] [] γ K = Sp.B_ref10_Arity v_op γ (fun r0 => K ([(dat (int i64 r0), Own.none)], [])) := by kernel_rfl
def Sp.ref10_Arity : Ty_ref10_Arity := Sp.B_ref10_Arity 
theorem E_ref10_Arity (p : Par) {F : Ent3} (hF : EntOk (cfg p) 76 F) : EntOk (cfg p) 76 (P_ref10_Arity Sp.ref10_Arity F) := by
  intro a s γ K q h
  unfold P_ref10_Arity at h
  split at h
  · exact body_ok (tab_nil _) rfl ((e_ref10_Arity p _ _ _).trans h)
  · exact hF _ _ _ _ _ h
abbrev Ty_ref10_one : Type 1 := Int → Int → Int → Int → ByteArray → ByteArray → ByteArray → List (List Dat) → Bool → (γ : Type) → (Bool → Option γ) → Option γ
def P_ref10_one (X : Ty_ref10_one) (F : Ent3) : Ent3 := fun a s γ K => match a, s with
  | [agg [(int i64 v_e0, Own.none), (int i64 v_e1, Own.none), (int i64 v_e2, Own.none), (int i64 v_e3, Own.none), (str v_e4, Own.none), (str v_e5, Own.none), (str v_e6, Own.none), (sl v_e7, Own.none)], dat (Dat.bool v_agg)], [] => X v_e0 v_e1 v_e2 v_e3 v_e4 v_e5 v_e6 v_e7 v_agg γ (fun r0 => K ([(dat (Dat.bool r0), Own.none)], []))
  | a, s => F a s γ K
def T_ref10_one (x_ref01_Check : Ty_ref01_Check) (x_ref09_Name : Ty_ref09_Name) (x_ref10_Arity : Ty_ref10_Arity) : CallK := (addK (addK (addK noneK 74 (P_ref01_Check x_ref01_Check none3)) 75 (P_ref09_Name x_ref09_Name none3)) 76 (P_ref10_Arity x_ref10_Arity none3))
def L_ref10_one (x_ref01_Check : Ty_ref01_Check) (x_ref09_Name : Ty_ref09_Name) (x_ref10_Arity : Ty_ref10_Arity) : LoopK := noneL
def Sp.B_ref10_one (x_ref01_Check : Ty_ref01_Check) (x_ref09_Name : Ty_ref09_Name) (x_ref10_Arity : Ty_ref10_Arity) (v_e0 v_e1 v_e2 v_e3 : Int) (v_e4 v_e5 v_e6 : ByteArray) (v_e7 : List (List Dat)) (v_agg : Bool) (γ : Type) (K : Bool → Option γ) : Option γ := bif decide (v_e0 = 1) then bif decide (v_e1 = 0) then bif decide (v_e5 = bs []) then bif decide (v_e6 = bs []) then bif decide (Int.ofNat (List.length v_e7) = 0) then x_ref01_Check v_e2 v_e3 v_e4 γ fun z11 => bif z11 then bif !decide (v_e2 = 2) then K true else K (decide (0 ≤ v_e3)) else K false else K false else K false else K false else K false else bif decide (v_e0 = 2) then bif decide (0 ≤ v_e1) then bif decide (v_e1 < 32) then bif decide (v_e2 = 0) && (decide (v_e3 = 0) && (decide (v_e4 = bs []) && true)) then bif decide (Int.ofNat (List.length v_e7) = 0) then x_ref09_Name v_e6 γ fun z12 => bif z12 then bif decide (v_e5 = bs []) then K true else x_ref09_Name v_e5 γ fun z13 => K z13 else K false else K false else K false else K false else K false else bif decide (v_e0 = 3) then bif decide (v_e2 = 0) && (decide (v_e3 = 0) && (decide (v_e4 = bs []) && true)) then bif decide (v_e5 = bs []) then bif decide (v_e6 = bs []) then x_ref10_Arity v_e1 γ fun z14 => bif decide (0 < z14) then x_ref10_Arity v_e1 γ fun z15 => K (decide (Int.ofNat (List.length v_e7) = z15)) else K false else K false else K false else K false else bif decide (v_e0 = 4) then bif !v_agg then bif decide (v_e2 = 0) && (decide (v_e3 = 0) && (decide (v_e4 = bs []) && true)) then bif decide (v_e5 = bs []) then bif decide (v_e6 = bs []) then bif decide (1 ≤ v_e1) then bif decide (v_e1 ≤ 5) then bif decide (v_e1 = 1) == decide (Int.ofNat (List.length v_e7) = 0) then K (decide (Int.ofNat (List.length v_e7) ≤ 1)) else K false else K false else K false else K false else K false else K false else K false else K false
theorem e_ref10_one (p : Par) (x_ref01_Check x_ref09_Name x_ref10_Arity v_e0 v_e1 v_e2 v_e3 v_e4 v_e5 v_e6 v_e7 v_agg) (γ : Type) (K : List Ent × Sig → Option γ) : evFK (cfg p) (T_ref10_one x_ref01_Check x_ref09_Name x_ref10_Arity) (L_ref10_one x_ref01_Check x_ref09_Name x_ref10_Arity) 54 [agg [(int i64 v_e0, Own.none), (int i64 v_e1, Own.none), (int i64 v_e2, Own.none), (int i64 v_e3, Own.none), (str v_e4, Own.none), (str v_e5, Own.none), (str v_e6, Own.none), (sl v_e7, Own.none)], dat (Dat.bool v_agg)] [] γ K = Sp.B_ref10_one x_ref01_Check x_ref09_Name x_ref10_Arity v_e0 v_e1 v_e2 v_e3 v_e4 v_e5 v_e6 v_e7 v_agg γ (fun r0 => K ([(dat (Dat.bool r0), Own.none)], [])) := by kernel_rfl
def Sp.ref10_one : Ty_ref10_one := Sp.B_ref10_one Sp.ref01_Check Sp.ref09_Name Sp.ref10_Arity
theorem E_ref10_one (p : Par) {F : Ent3} (hF : EntOk (cfg p) 54 F) : EntOk (cfg p) 54 (P_ref10_one Sp.ref10_one F) := by
  intro a s γ K q h
  unfold P_ref10_one at h
  split at h
  · exact body_ok (tab_call (tab_call (tab_call (tab_nil _) (E_ref01_Check p (ent_none _ _))) (E_ref09_Name p (ent_none _ _))) (E_ref10_Arity p (ent_none _ _))) rfl ((e_ref10_one p _ _ _ _ _ _ _ _ _ _ _ _ _ _).trans h)
  · exact hF _ _ _ _ _ h
abbrev Ty_ref10_walk : Type 1 := Int → Int → Int → Int → ByteArray → ByteArray → ByteArray → List (List Dat) → Int → Bool → (γ : Type) → (Int → Bool → Option γ) → Option γ
def P_ref10_walk (X : Ty_ref10_walk) (F : Ent3) : Ent3 := fun a s γ K => match a, s with
  | [agg [(int i64 v_e0, Own.none), (int i64 v_e1, Own.none), (int i64 v_e2, Own.none), (int i64 v_e3, Own.none), (str v_e4, Own.none), (str v_e5, Own.none), (str v_e6, Own.none), (sl v_e7, Own.none)], dat (int i64 v_deep), dat (Dat.bool v_agg)], [] => X v_e0 v_e1 v_e2 v_e3 v_e4 v_e5 v_e6 v_e7 v_deep v_agg γ (fun r0 r1 => K ([(dat (int i64 r0), Own.none), (dat (Dat.bool r1), Own.none)], []))
  | a, s => F a s γ K
abbrev Ty_ref10_walk_L0 : Type 1 := Int → Bool → Int → Bool → Int → Int → Int → Int → Int → Int → ByteArray → ByteArray → ByteArray → List (List Dat) → (γ : Type) → (Ex → Int → Bool → Int → Int → Int → Int → Int → Int → ByteArray → ByteArray → ByteArray → List (List Dat) → Option γ) → Option γ
def P_ref10_walk_L0 (X : Ty_ref10_walk_L0) (F : Loop3) : Loop3 := fun a s γ K => match a, s with
  | [dat (int i64 v_deep), dat (Dat.bool v_agg), AVal.loc 3 0], ([dat (int i64 v_), dat (Dat.bool v__1), dat (int i64 v_n), dat (int i64 v_i), agg [(int i64 w0, Own.none), (int i64 w1, Own.none), (int i64 w2, Own.none), (int i64 w3, Own.none), (str w4, Own.none), (str w5, Own.none), (str w6, Own.none), (sl w7, Own.none)]], []) => X v_deep v_agg v_ v__1 v_n v_i w0 w1 w2 w3 w4 w5 w6 w7 γ (fun e x0 x1 x2 x3 x4 x5 x6 x7 x8 x9 x10 x11 => K (e, ([dat (int i64 x0), dat (Dat.bool x1), dat (int i64 x2), dat (int i64 x3), agg [(int i64 x4, Own.none), (int i64 x5, Own.none), (int i64 x6, Own.none), (int i64 x7, Own.none), (str x8, Own.none), (str x9, Own.none), (str x10, Own.none), (sl x11, Own.none)]], [])))
  | a, s => F a s γ K
def T_ref10_walk_L0 (x_ref10_walk : Ty_ref10_walk) : CallK := (addK noneK 45 (P_ref10_walk x_ref10_walk none3))
def L_ref10_walk_L0 (x_ref10_walk : Ty_ref10_walk) : LoopK := noneL
def Sp.B_ref10_walk_L0 (x_ref10_walk_L0 : Ty_ref10_walk_L0) (x_ref10_walk : Ty_ref10_walk) (v_deep : Int) (v_agg : Bool) (v_ : Int) (v__1 : Bool) (v_n v_i w0 w1 w2 w3 : Int) (w4 w5 w6 : ByteArray) (w7 : List (List Dat)) (γ : Type) (K : Ex → Int → Bool → Int → Int → Int → Int → Int → Int → ByteArray → ByteArray → ByteArray → List (List Dat) → Option γ) : Option γ := bif decide (v_i < Int.ofNat (List.length w7)) then elemAt w7 v_i fun z16 => bif List.length z16 == 8 then cellAt z16 0 fun z17 => Aev.asInt i64 z17 fun z18 => cellAt z16 1 fun z19 => Aev.asInt i64 z19 fun z20 => cellAt z16 2 fun z21 => Aev.asInt i64 z21 fun z22 => cellAt z16 3 fun z23 => Aev.asInt i64 z23 fun z24 => cellAt z16 4 fun z25 => asStr z25 fun z26 => cellAt z16 5 fun z27 => asStr z27 fun z28 => cellAt z16 6 fun z29 => asStr z29 fun z30 => cellAt z16 7 fun z31 => asSl z31 fun z32 => bif v_agg then x_ref10_walk z18 z20 z22 z24 z26 z28 z30 z32 (IntKind.wrap i64 (v_deep + 1)) true γ fun z33 z34 => bif !z34 then K Ex.ret 0 false (IntKind.wrap i64 (v_n + z33)) v_i w0 w1 w2 w3 w4 w5 w6 w7 else bif decide (512 < IntKind.wrap i64 (v_n + z33)) then K Ex.ret 0 false (IntKind.wrap i64 (v_n + z33)) v_i w0 w1 w2 w3 w4 w5 w6 w7 else x_ref10_walk_L0 v_deep v_agg v_ v__1 (IntKind.wrap i64 (v_n + z33)) (IntKind.wrap i64 (v_i + 1)) w0 w1 w2 w3 w4 w5 w6 w7 γ K else x_ref10_walk z18 z20 z22 z24 z26 z28 z30 z32 (IntKind.wrap i64 (v_deep + 1)) (decide (w0 = 4)) γ fun z35 z36 => bif !z36 then K Ex.ret 0 false (IntKind.wrap i64 (v_n + z35)) v_i w0 w1 w2 w3 w4 w5 w6 w7 else bif decide (512 < IntKind.wrap i64 (v_n + z35)) then K Ex.ret 0 false (IntKind.wrap i64 (v_n + z35)) v_i w0 w1 w2 w3 w4 w5 w6 w7 else x_ref10_walk_L0 v_deep v_agg v_ v__1 (IntKind.wrap i64 (v_n + z35)) (IntKind.wrap i64 (v_i + 1)) w0 w1 w2 w3 w4 w5 w6 w7 γ K else none else K (Ex.exit 0) v_ v__1 v_n v_i w0 w1 w2 w3 w4 w5 w6 w7
theorem e_ref10_walk_L0 (p : Par) (x_ref10_walk_L0 : Ty_ref10_walk_L0) (x_ref10_walk v_deep v_agg v_ v__1 v_n v_i w0 w1 w2 w3 w4 w5 w6 w7) (γ : Type) (K : Ex × Vars → Option γ) : roundK (cfg p) (T_ref10_walk_L0 x_ref10_walk) (L_ref10_walk_L0 x_ref10_walk) 45 0 [dat (int i64 v_deep), dat (Dat.bool v_agg), AVal.loc 3 0] ([dat (int i64 v_), dat (Dat.bool v__1), dat (int i64 v_n), dat (int i64 v_i), agg [(int i64 w0, Own.none), (int i64 w1, Own.none), (int i64 w2, Own.none), (int i64 w3, Own.none), (str w4, Own.none), (str w5, Own.none), (str w6, Own.none), (sl w7, Own.none)]], []) γ (contL (fun v => P_ref10_walk_L0 x_ref10_walk_L0 noneL3 [dat (int i64 v_deep), dat (Dat.bool v_agg), AVal.loc 3 0] v γ K) K) = Sp.B_ref10_walk_L0 x_ref10_walk_L0 x_ref10_walk v_deep v_agg v_ v__1 v_n v_i w0 w1 w2 w3 w4 w5 w6 w7 γ (fun e x0 x1 x2 x3 x4 x5 x6 x7 x8 x9 x10 x11 => K (e, ([dat (int i64 x0), dat (Dat.bool x1), dat (int i64 x2), dat (int i64 x3), agg [(int i64 x4, Own.none), (int i64 x5, Own.none), (int i64 x6, Own.none), (int i64 x7, Own.none), (str x8, Own.none), (str x9, Own.none), (str x10, Own.none), (sl x11, Own.none)]], []))) := by kernel_rfl
def T_ref10_walk (x_ref10_one : Ty_ref10_one) (x_ref10_walk_L0 : Ty_ref10_walk_L0) : CallK := (addK noneK 54 (P_ref10_one x_ref10_one none3))
def L_ref10_walk (x_ref10_one : Ty_ref10_one) (x_ref10_walk_L0 : Ty_ref10_walk_L0) : LoopK := (addL noneL 45 0 (P_ref10_walk_L0 x_ref10_walk_L0 noneL3))
def Sp.B_ref10_walk (x_ref10_one : Ty_ref10_one) (x_ref10_walk_L0 : Ty_ref10_walk_L0) (v_e0 v_e1 v_e2 v_e3 : Int) (v_e4 v_e5 v_e6 : ByteArray) (v_e7 : List (List Dat)) (v_deep : Int) (v_agg : Bool) (γ : Type) (K : Int → Bool → Option γ) : Option γ := bif decide (32 < v_deep) then K 0 false else x_ref10_one v_e0 v_e1 v_e2 v_e3 v_e4 v_e5 v_e6 v_e7 v_agg γ fun z12 => bif !z12 then K 0 false else x_ref10_walk_L0 v_deep v_agg 0 false 1 0 v_e0 v_e1 v_e2 v_e3 v_e4 v_e5 v_e6 v_e7 γ fun z13 z14 z15 z16 z17 z18 z19 z20 z21 z22 z23 z24 z25 => bif Ex.isExit z13 0 then K z16 true else bif Ex.isRet z13 then K z14 z15 else none
theorem e_ref10_walk (p : Par) (x_ref10_one x_ref10_walk_L0 v_e0 v_e1 v_e2 v_e3 v_e4 v_e5 v_e6 v_e7 v_deep v_agg) (γ : Type) (K : List Ent × Sig → Option γ) : evFK (cfg p) (T_ref10_walk x_ref10_one x_ref10_walk_L0) (L_ref10_walk x_ref10_one x_ref10_walk_L0) 45 [agg [(int i64 v_e0, Own.none), (int i64 v_e1, Own.none), (int i64 v_e2, Own.none), (int i64 v_e3, Own.none), (str v_e4, Own.none), (str v_e5, Own.none), (str v_e6, Own.none), (sl v_e7, Own.none)], dat (int i64 v_deep), dat (Dat.bool v_agg)] [] γ K = Sp.B_ref10_walk x_ref10_one x_ref10_walk_L0 v_e0 v_e1 v_e2 v_e3 v_e4 v_e5 v_e6 v_e7 v_deep v_agg γ (fun r0 r1 => K ([(dat (int i64 r0), Own.none), (dat (Dat.bool r1), Own.none)], [])) := by kernel_rfl
def Sp.ref10_walk_L0 (R_ref10_walk : Ty_ref10_walk) : Nat → Ty_ref10_walk_L0
  | 0 => fun _ _ _ _ _ _ _ _ _ _ _ _ _ _ _ _ => none
  | n + 1 => Sp.B_ref10_walk_L0 (Sp.ref10_walk_L0 R_ref10_walk n) R_ref10_walk
theorem E0_ref10_walk_L0 (p : Par) (R_ref10_walk : Ty_ref10_walk) (h_ref10_walk : ∀ {F : Ent3}, EntOk (cfg p) 45 F → EntOk (cfg p) 45 (P_ref10_walk R_ref10_walk F)) : ∀ n, EntOkL (cfg p) 45 0 (P_ref10_walk_L0 (Sp.ref10_walk_L0 R_ref10_walk n) noneL3) := entL_rounds (tab_call (tab_nil _) (h_ref10_walk (ent_none _ _))) (by kernel_rfl) (fun c v γ K => by unfold P_ref10_walk_L0; split <;> rfl) fun n c v γ K q h => by
  unfold P_ref10_walk_L0 at h
  split at h
  · exact (e_ref10_walk_L0 p _ _ _ _ _ _ _ _ _ _ _ _ _ _ _ _ _ _).trans h
  · cases h
theorem E_ref10_walk_L0 (p : Par) (R_ref10_walk : Ty_ref10_walk) (h_ref10_walk : ∀ {F : Ent3}, EntOk (cfg p) 45 F → EntOk (cfg p) 45 (P_ref10_walk R_ref10_walk F)) (n : Nat) {F : Loop3} (hF : EntOkL (cfg p) 45 0 F) : EntOkL (cfg p) 45 0 (P_ref10_walk_L0 (Sp.ref10_walk_L0 R_ref10_walk n) F) := by
  intro c v γ K q h
  unfold P_ref10_walk_L0 at h
  split at h
  · exact E0_ref10_walk_L0 p R_ref10_walk h_ref10_walk n _ _ _ _ _ h
  · exact hF _ _ _ _ _ h
def Sp.ref10_walk : Nat → Ty_ref10_walk
  | 0 => fun _ _ _ _ _ _ _ _ _ _ _ _ => none
  | n + 1 => Sp.B_ref10_walk Sp.ref10_one (Sp.ref10_walk_L0 (Sp.ref10_walk n) fuel)
theorem G75_ok (p : Par) (n : Nat) : (∀ {F : Ent3}, EntOk (cfg p) 45 F → EntOk (cfg p) 45 (P_ref10_walk (Sp.ref10_walk n) F)) := by
  induction n with
  | zero =>
    refine ?_
    · intro F hF a s γ K q h
      unfold P_ref10_walk at h
      split at h
      · cases h
      · exact hF _ _ _ _ _ h
  | succ n ih =>
    refine ?_
    · intro F hF a s γ K q h
      unfold P_ref10_walk at h
      split at h
      · exact body_ok (tab_loop (tab_call (tab_nil _) (E_ref10_one p (ent_none _ _))) (E_ref10_walk_L0 p (Sp.ref10_walk n) ih fuel (entL_none _ _ _))) rfl ((e_ref10_walk p _ _ _ _ _ _ _ _ _ _ _ _ _ _).trans h)
      · exact hF _ _ _ _ _ h
theorem E_ref10_walk (p : Par) (n : Nat) {F : Ent3} (hF : EntOk (cfg p) 45 F) : EntOk (cfg p) 45 (P_ref10_walk (Sp.ref10_walk n) F) := (G75_ok p n) hF
abbrev Ty_ref10_Check : Type 1 := Int → Int → Int → Int → ByteArray → ByteArray → ByteArray → List (List Dat) → (γ : Type) → (Bool → Option γ) → Option γ
def P_ref10_Check (X : Ty_ref10_Check) (F : Ent3) : Ent3 := fun a s γ K => match a, s with
  | [agg [(int i64 v_e0, Own.none), (int i64 v_e1, Own.none), (int i64 v_e2, Own.none), (int i64 v_e3, Own.none), (str v_e4, Own.none), (str v_e5, Own.none), (str v_e6, Own.none), (sl v_e7, Own.none)]], [] => X v_e0 v_e1 v_e2 v_e3 v_e4 v_e5 v_e6 v_e7 γ (fun r0 => K ([(dat (Dat.bool r0), Own.none)], []))
  | a, s => F a s γ K
def T_ref10_Check (x_ref10_walk : Ty_ref10_walk) : CallK := (addK noneK 45 (P_ref10_walk x_ref10_walk none3))
def L_ref10_Check (x_ref10_walk : Ty_ref10_walk) : LoopK := noneL
def Sp.B_ref10_Check (x_ref10_walk : Ty_ref10_walk) (v_e0 v_e1 v_e2 v_e3 : Int) (v_e4 v_e5 v_e6 : ByteArray) (v_e7 : List (List Dat)) (γ : Type) (K : Bool → Option γ) : Option γ := x_ref10_walk v_e0 v_e1 v_e2 v_e3 v_e4 v_e5 v_e6 v_e7 1 false γ fun z10 z11 => K z11
theorem e_ref10_Check (p : Par) (x_ref10_walk v_e0 v_e1 v_e2 v_e3 v_e4 v_e5 v_e6 v_e7) (γ : Type) (K : List Ent × Sig → Option γ) : evFK (cfg p) (T_ref10_Check x_ref10_walk) (L_ref10_Check x_ref10_walk) 32 [agg [(int i64 v_e0, Own.none), (int i64 v_e1, Own.none), (int i64 v_e2, Own.none), (int i64 v_e3, Own.none), (str v_e4, Own.none), (str v_e5, Own.none), (str v_e6, Own.none), (sl v_e7, Own.none)]] [] γ K = Sp.B_ref10_Check x_ref10_walk v_e0 v_e1 v_e2 v_e3 v_e4 v_e5 v_e6 v_e7 γ (fun r0 => K ([(dat (Dat.bool r0), Own.none)], [])) := by kernel_rfl
def Sp.ref10_Check : Ty_ref10_Check := Sp.B_ref10_Check (Sp.ref10_walk fuel)
theorem E_ref10_Check (p : Par) {F : Ent3} (hF : EntOk (cfg p) 32 F) : EntOk (cfg p) 32 (P_ref10_Check Sp.ref10_Check F) := by
  intro a s γ K q h
  unfold P_ref10_Check at h
  split at h
  · exact body_ok (tab_call (tab_nil _) (E_ref10_walk p fuel (ent_none _ _))) rfl ((e_ref10_Check p _ _ _ _ _ _ _ _ _ _ _).trans h)
  · exact hF _ _ _ _ _ h
abbrev Ty_ref14_bind : Type 1 := Int → Int → Int → Int → ByteArray → ByteArray → ByteArray → List (List Dat) → List (List Dat) → (γ : Type) → (Int → Int → Int → Int → ByteArray → ByteArray → ByteArray → List (List Dat) → Bool → Option γ) → Option γ
def P_ref14_bind (X : Ty_ref14_bind) (F : Ent3) : Ent3 := fun a s γ K => match a, s with
  | [agg [(int i64 v_e0, Own.none), (int i64 v_e1, Own.none), (int i64 v_e2, Own.none), (int i64 v_e3, Own.none), (str v_e4, Own.none), (str v_e5, Own.none), (str v_e6, Own.none), (sl v_e7, Own.none)], dat (sl v_cols)], [] => X v_e0 v_e1 v_e2 v_e3 v_e4 v_e5 v_e6 v_e7 v_cols γ (fun r0 r1 r2 r3 r4 r5 r6 r7 r8 => K ([(agg [(int i64 r0, Own.none), (int i64 r1, Own.none), (int i64 r2, Own.none), (int i64 r3, Own.none), (str r4, Own.none), (str r5, Own.none), (str r6, Own.none), (sl r7, Own.none)], Own.none), (dat (Dat.bool r8), Own.none)], []))
  | a, s => F a s γ K
abbrev Ty_ref14_bind_L0 : Type 1 := List (List Dat) → Bool → List (List Dat) → Int → Int → Int → Int → Int → ByteArray → ByteArray → ByteArray → List (List Dat) → Int → Int → Int → Int → ByteArray → ByteArray → ByteArray → List (List Dat) → (γ : Type) → (Ex → Bool → List (List Dat) → Int → Int → Int → Int → Int → ByteArray → ByteArray → ByteArray → List (List Dat) → Int → Int → Int → Int → ByteArray → ByteArray → ByteArray → List (List Dat) → Option γ) → Option γ
def P_ref14_bind_L0 (X : Ty_ref14_bind_L0) (F : Loop3) : Loop3 := fun a s γ K => match a, s with
  | [dat (sl v_cols), AVal.loc 2 0, AVal.loc 4 0], ([dat (Dat.bool v_ok), dat (sl v_l), dat (int i64 v_i), agg [(int i64 w0, Own.none), (int i64 w1, Own.none), (int i64 w2, Own.none), (int i64 w3, Own.none), (str w4, Own.none), (str w5, Own.none), (str w6, Own.none), (sl w7, Own.none)], agg [(int i64 w0_1, Own.none), (int i64 w1_1, Own.none), (int i64 w2_1, Own.none), (int i64 w3_1, Own.none), (str w4_1, Own.none), (str w5_1, Own.none), (str w6_1, Own.none), (sl w7_1, Own.none)]], []) => X v_cols v_ok v_l v_i w0 w1 w2 w3 w4 w5 w6 w7 w0_1 w1_1 w2_1 w3_1 w4_1 w5_1 w6_1 w7_1 γ (fun e x0 x1 x2 x3 x4 x5 x6 x7 x8 x9 x10 x11 x12 x13 x14 x15 x16 x17 x18 => K (e, ([dat (Dat.bool x0), dat (sl x1), dat (int i64 x2), agg [(int i64 x3, Own.none), (int i64 x4, Own.none), (int i64 x5, Own.none), (int i64 x6, Own.none), (str x7, Own.none), (str x8, Own.none), (str x9, Own.none), (sl x10, Own.none)], agg [(int i64 x11, Own.none), (int i64 x12, Own.none), (int i64 x13, Own.none), (int i64 x14, Own.none), (str x15, Own.none), (str x16, Own.none), (str x17, Own.none), (sl x18, Own.none)]], [])))
  | a, s => F a s γ K
def T_ref14_bind_L0 (x_ref14_bind : Ty_ref14_bind) : CallK := (addK noneK 33 (P_ref14_bind x_ref14_bind none3))
def L_ref14_bind_L0 (x_ref14_bind : Ty_ref14_bind) : LoopK := noneL
def Sp.B_ref14_bind_L0 (x_ref14_bind_L0 : Ty_ref14_bind_L0) (x_ref14_bind : Ty_ref14_bind) (v_cols : List (List Dat)) (v_ok : Bool) (v_l : List (List Dat)) (v_i w0 w1 w2 w3 : Int) (w4 w5 w6 : ByteArray) (w7 : List (List Dat)) (w0_1 w1_1 w2_1 w3_1 : Int) (w4_1 w5_1 w6_1 : ByteArray) (w7_1 : List (List Dat)) (γ : Type) (K : Ex → Bool → List (List Dat) → Int → Int → Int → Int → Int → ByteArray → ByteArray → ByteArray → List (List Dat) → Int → Int → Int → Int → ByteArray → ByteArray → ByteArray → List (List Dat) → Option γ) : Option γ := bif sized v_l 8 then bif decide (v_i < Int.ofNat (List.length w7)) then elemAt w7 v_i fun z22 => bif List.length z22 == 8 then cellAt z22 0 fun z23 => Aev.asInt i64 z23 fun z24 => cellAt z22 1 fun z25 => Aev.asInt i64 z25 fun z26 => cellAt z22 2 fun z27 => Aev.asInt i64 z27 fun z28 => cellAt z22 3 fun z29 => Aev.asInt i64 z29 fun z30 => cellAt z22 4 fun z31 => asStr z31 fun z32 => cellAt z22 5 fun z33 => asStr z33 fun z34 => cellAt z22 6 fun z35 => asStr z35 fun z36 => cellAt z22 7 fun z37 => asSl z37 fun z38 => x_ref14_bind z24 z26 z28 z30 z32 z34 z36 z38 v_cols γ fun z39 z40 z41 z42 z43 z44 z45 z46 z47 => bif v_ok then bif sized v_l 8 && true && true && decide ((List.length v_l + 1) * 105 ≤ 70368744177664) && true then x_ref14_bind_L0 v_cols z47 (v_l ++ [[int i64 z39, int i64 z40, int i64 z41, int i64 z42, str z43, str z44, str z45, sl z46]]) (IntKind.wrap i64 (v_i + 1)) w0 w1 w2 w3 w4 w5 w6 w7 w0_1 w1_1 w2_1 w3_1 w4_1 w5_1 w6_1 w7_1 γ K else none else bif sized v_l 8 && true && true && decide ((List.length v_l + 1) * 105 ≤ 70368744177664) && true then x_ref14_bind_L0 v_cols false (v_l ++ [[int i64 z39, int i64 z40, int i64 z41, int i64 z42, str z43, str z44, str z45, sl z46]]) (IntKind.wrap i64 (v_i + 1)) w0 w1 w2 w3 w4 w5 w6 w7 w0_1 w1_1 w2_1 w3_1 w4_1 w5_1 w6_1 w7_1 γ K else none else none else K (Ex.exit 0) v_ok v_l v_i w0 w1 w2 w3 w4 w5 w6 w7 w0_1 w1_1 w2_1 w3_1 w4_1 w5_1 w6_1 w7_1 else none
theorem e_ref14_bind_L0 (p : Par) (x_ref14_bind_L0 : Ty_ref14_bind_L0) (x_ref14_bind v_cols v_ok v_l v_i w0 w1 w2 w3 w4 w5 w6 w7 w0_1 w1_1 w2_1 w3_1 w4_1 w5_1 w6_1 w7_1) (γ : Type) (K : Ex × Vars → Option γ) : roundK (cfg p) (T_ref14_bind_L0 x_ref14_bind) (L_ref14_bind_L0 x_ref14_bind) 33 0 [dat (sl v_cols), AVal.loc 2 0, AVal.loc 4 0] ([dat (Dat.bool v_ok), dat (sl v_l), dat (int i64 v_i), agg [(int i64 w0, Own.none), (int i64 w1, Own.none), (int i64 w2, Own.none), (int i64 w3, Own.none), (str w4, Own.none), (str w5, Own.none), (str w6, Own.none), (sl w7, Own.none)], agg [(int i64 w0_1, Own.none), (int i64 w1_1, Own.none), (int i64 w2_1, Own.none), (int i64 w3_1, Own.none), (str w4_1, Own.none), (str w5_1, Own.none), (str w6_1, Own.none), (sl w7_1, Own.none)]], []) γ (contL (fun v => P_ref14_bind_L0 x_ref14_bind_L0 noneL3 [dat (sl v_cols), AVal.loc 2 0, AVal.loc 4 0] v γ K) K) = Sp.B_ref14_bind_L0 x_ref14_bind_L0 x_ref14_bind v_cols v_ok v_l v_i w0 w1 w2 w3 w4 w5 w6 w7 w0_1 w1_1 w2_1 w3_1 w4_1 w5_1 w6_1 w7_1 γ (fun e x0 x1 x2 x3 x4 x5 x6 x7 x8 x9 x10 x11 x12 x13 x14 x15 x16 x17 x18 => K (e, ([dat (Dat.bool x0), dat (sl x1), dat (int i64 x2), agg [(int i64 x3, Own.none), (int i64 x4, Own.none), (int i64 x5, Own.none), (int i64 x6, Own.none), (str x7, Own.none), (str x8, Own.none), (str x9, Own.none), (sl x10, Own.none)], agg [(int i64 x11, Own.none), (int i64 x12, Own.none), (int i64 x13, Own.none), (int i64 x14, Own.none), (str x15, Own.none), (str x16, Own.none), (str x17, Own.none), (sl x18, Own.none)]], []))) := by kernel_rfl
def T_ref14_bind (x_ref14_Find : Ty_ref14_Find) (x_ref14_bind_L0 : Ty_ref14_bind_L0) : CallK := (addK noneK 11 (P_ref14_Find x_ref14_Find none3))
def L_ref14_bind (x_ref14_Find : Ty_ref14_Find) (x_ref14_bind_L0 : Ty_ref14_bind_L0) : LoopK := (addL noneL 33 0 (P_ref14_bind_L0 x_ref14_bind_L0 noneL3))
def Sp.B_ref14_bind (x_ref14_Find : Ty_ref14_Find) (x_ref14_bind_L0 : Ty_ref14_bind_L0) (v_e0 v_e1 v_e2 v_e3 : Int) (v_e4 v_e5 v_e6 : ByteArray) (v_e7 v_cols : List (List Dat)) (γ : Type) (K : Int → Int → Int → Int → ByteArray → ByteArray → ByteArray → List (List Dat) → Bool → Option γ) : Option γ := bif decide (v_e0 = 2) then x_ref14_Find v_cols v_e5 v_e6 γ fun z11 z12 => x_ref14_bind_L0 v_cols z12 [] 0 v_e0 z11 v_e2 v_e3 v_e4 v_e5 v_e6 v_e7 0 0 0 0 (bs []) (bs []) (bs []) [] γ fun z13 z14 z15 z16 z17 z18 z19 z20 z21 z22 z23 z24 z25 z26 z27 z28 z29 z30 z31 z32 => bif sized z15 8 then bif Ex.isExit z13 0 then K z17 z18 z19 z20 z21 z22 z23 z15 z14 else bif Ex.isRet z13 then none else none else none else x_ref14_bind_L0 v_cols true [] 0 v_e0 v_e1 v_e2 v_e3 v_e4 v_e5 v_e6 v_e7 0 0 0 0 (bs []) (bs []) (bs []) [] γ fun z33 z34 z35 z36 z37 z38 z39 z40 z41 z42 z43 z44 z45 z46 z47 z48 z49 z50 z51 z52 => bif sized z35 8 then bif Ex.isExit z33 0 then K z37 z38 z39 z40 z41 z42 z43 z35 z34 else bif Ex.isRet z33 then none else none else none
theorem e_ref14_bind (p : Par) (x_ref14_Find x_ref14_bind_L0 v_e0 v_e1 v_e2 v_e3 v_e4 v_e5 v_e6 v_e7 v_cols) (γ : Type) (K : List Ent × Sig → Option γ) : evFK (cfg p) (T_ref14_bind x_ref14_Find x_ref14_bind_L0) (L_ref14_bind x_ref14_Find x_ref14_bind_L0) 33 [agg [(int i64 v_e0, Own.none), (int i64 v_e1, Own.none), (int i64 v_e2, Own.none), (int i64 v_e3, Own.none), (str v_e4, Own.none), (str v_e5, Own.none), (str v_e6, Own.none), (sl v_e7, Own.none)], dat (sl v_cols)] [] γ K = Sp.B_ref14_bind x_ref14_Find x_ref14_bind_L0 v_e0 v_e1 v_e2 v_e3 v_e4 v_e5 v_e6 v_e7 v_cols γ (fun r0 r1 r2 r3 r4 r5 r6 r7 r8 => K ([(agg [(int i64 r0, Own.none), (int i64 r1, Own.none), (int i64 r2, Own.none), (int i64 r3, Own.none), (str r4, Own.none), (str r5, Own.none), (str r6, Own.none), (sl r7, Own.none)], Own.none), (dat (Dat.bool r8), Own.none)], [])) := by kernel_rfl
def Sp.ref14_bind_L0 (R_ref14_bind : Ty_ref14_bind) : Nat → Ty_ref14_bind_L0
  | 0 => fun _ _ _ _ _ _ _ _ _ _ _ _ _ _ _ _ _ _ _ _ _ _ => none
  | n + 1 => Sp.B_ref14_bind_L0 (Sp.ref14_bind_L0 R_ref14_bind n) R_ref14_bind
theorem E0_ref14_bind_L0 (p : Par) (R_ref14_bind : Ty_ref14_bind) (h_ref14_bind : ∀ {F : Ent3}, EntOk (cfg p) 33 F → EntOk (cfg p) 33 (P_ref14_bind R_ref14_bind F)) : ∀ n, EntOkL (cfg p) 33 0 (P_ref14_bind_L0 (Sp.ref14_bind_L0 R_ref14_bind n) noneL3) := entL_rounds (tab_call (tab_nil _) (h_ref14_bind (ent_none _ _))) (by kernel_rfl) (fun c v γ K => by unfold P_ref14_bind_L0; split <;> rfl) fun n c v γ K q h => by
  unfold P_ref14_bind_L0 at h
  split at h
  · exact (e_ref14_bind_L0 p _ _ _ _ _ _ _ _ _ _ _ _ _ _ _ _ _ _ _ _ _ _ _ _).trans h
  · cases h
theorem E_ref14_bind_L0 (p : Par) (R_ref14_bind : Ty_ref14_bind) (h_ref14_bind : ∀ {F : Ent3}, EntOk (cfg p) 33 F → EntOk (cfg p) 33 (P_ref14_bind R_ref14_bind F)) (n : Nat) {F : Loop3} (hF : EntOkL (cfg p) 33 0 F) : EntOkL (cfg p) 33 0 (P_ref14_bind_L0 (Sp.ref14_bind_L0 R_ref14_bind n) F) := by
  intro c v γ K q h
  unfold P_ref14_bind_L0 at h
  split at h
  · exact E0_ref14_bind_L0 p R_ref14_bind h_ref14_bind n _ _ _ _ _ h
  · exact hF _ _ _ _ _ h
def Sp.ref14_bind : Nat → Ty_ref14_bind
  | 0 => fun _ _ _ _ _ _ _ _ _ _ _ => none
  | n + 1 => Sp.B_ref14_bind Sp.ref14_Find (Sp.ref14_bind_L0 (Sp.ref14_bind n) fuel)
theorem G77_ok (p : Par) (n : Nat) : (∀ {F : Ent3}, EntOk (cfg p) 33 F → EntOk (cfg p) 33 (P_ref14_bind (Sp.ref14_bind n) F)) := by
  induction n with
  | zero =>
    refine ?_
    · intro F hF a s γ K q h
      unfold P_ref14_bind at h
      split at h
      · cases h
      · exact hF _ _ _ _ _ h
  | succ n ih =>
    refine ?_
    · intro F hF a s γ K q h
      unfold P_ref14_bind at h
      split at h
      · exact body_ok (tab_loop (tab_call (tab_nil _) (E_ref14_Find p (ent_none _ _))) (E_ref14_bind_L0 p (Sp.ref14_bind n) ih fuel (entL_none _ _ _))) rfl ((e_ref14_bind p _ _ _ _ _ _ _ _ _ _ _ _ _).trans h)
      · exact hF _ _ _ _ _ h
theorem E_ref14_bind (p : Par) (n : Nat) {F : Ent3} (hF : EntOk (cfg p) 33 F) : EntOk (cfg p) 33 (P_ref14_bind (Sp.ref14_bind n) F) := (G77_ok p n) hF
abbrev Ty_ref14_Bind : Type 1 := Int → Int → Int → Int → ByteArray → ByteArray → ByteArray → List (List Dat) → List (List Dat) → (γ : Type) → (Int → Int → Int → Int → ByteArray → ByteArray → ByteArray → List (List Dat) → Int → Option γ) → Option γ
def P_ref14_Bind (X : Ty_ref14_Bind) (F : Ent3) : Ent3 := fun a s γ K => match a, s with
  | [agg [(int i64 v_e0, Own.none), (int i64 v_e1, Own.none), (int i64 v_e2, Own.none), (int i64 v_e3, Own.none), (str v_e4, Own.none), (str v_e5, Own.none), (str v_e6, Own.none), (sl v_e7, Own.none)], dat (sl v_cols)], [] => X v_e0 v_e1 v_e2 v_e3 v_e4 v_e5 v_e6 v_e7 v_cols γ (fun r0 r1 r2 r3 r4 r5 r6 r7 r8 => K ([(agg [(int i64 r0, Own.none), (int i64 r1, Own.none), (int i64 r2, Own.none), (int i64 r3, Own.none), (str r4, Own.none), (str r5, Own.none), (str r6, Own.none), (sl r7, Own.none)], Own.none), (dat (int i64 r8), Own.none)], []))
  | a, s => F a s γ K
def T_ref14_Bind (x_ref10_Check : Ty_ref10_Check) (x_ref14_bind : Ty_ref14_bind) : CallK := (addK (addK noneK 32 (P_ref10_Check x_ref10_Check none3)) 33 (P_ref14_bind x_ref14_bind none3))
def L_ref14_Bind (x_ref10_Check : Ty_ref10_Check) (x_ref14_bind : Ty_ref14_bind) : LoopK := noneL
def Sp.B_ref14_Bind (x_ref10_Check : Ty_ref10_Check) (x_ref14_bind : Ty_ref14_bind) (v_e0 v_e1 v_e2 v_e3 : Int) (v_e4 v_e5 v_e6 : ByteArray) (v_e7 v_cols : List (List Dat)) (γ : Type) (K : Int → Int → Int → Int → ByteArray → ByteArray → ByteArray → List (List Dat) → Int → Option γ) : Option γ := x_ref10_Check v_e0 v_e1 v_e2 v_e3 v_e4 v_e5 v_e6 v_e7 γ fun z11 => bif !z11 then K 0 0 0 0 (bs []) (bs []) (bs []) [] 100 else x_ref14_bind v_e0 v_e1 v_e2 v_e3 v_e4 v_e5 v_e6 v_e7 v_cols γ fun z12 z13 z14 z15 z16 z17 z18 z19 z20 => bif !z20 then K 0 0 0 0 (bs []) (bs []) (bs []) [] 140 else K z12 z13 z14 z15 z16 z17 z18 z19 0
theorem e_ref14_Bind (p : Par) (x_ref10_Check x_ref14_bind v_e0 v_e1 v_e2 v_e3 v_e4 v_e5 v_e6 v_e7 v_cols) (γ : Type) (K : List Ent × Sig → Option γ) : evFK (cfg p) (T_ref14_Bind x_ref10_Check x_ref14_bind) (L_ref14_Bind x_ref10_Check x_ref14_bind) 14 [agg [(int i64 v_e0, Own.none), (int i64 v_e1, Own.none), (int i64 v_e2, Own.none), (int i64 v_e3, Own.none), (str v_e4, Own.none), (str v_e5, Own.none), (str v_e6, Own.none), (sl v_e7, Own.none)], dat (sl v_cols)] [] γ K = Sp.B_ref14_Bind x_ref10_Check x_ref14_bind v_e0 v_e1 v_e2 v_e3 v_e4 v_e5 v_e6 v_e7 v_cols γ (fun r0 r1 r2 r3 r4 r5 r6 r7 r8 => K ([(agg [(int i64 r0, Own.none), (int i64 r1, Own.none), (int i64 r2, Own.none), (int i64 r3, Own.none), (str r4, Own.none), (str r5, Own.none), (str r6, Own.none), (sl r7, Own.none)], Own.none), (dat (int i64 r8), Own.none)], [])) := by kernel_rfl
def Sp.ref14_Bind : Ty_ref14_Bind := Sp.B_ref14_Bind Sp.ref10_Check (Sp.ref14_bind fuel)
theorem E_ref14_Bind (p : Par) {F : Ent3} (hF : EntOk (cfg p) 14 F) : EntOk (cfg p) 14 (P_ref14_Bind Sp.ref14_Bind F) := by
  intro a s γ K q h
  unfold P_ref14_Bind at h
  split at h
  · exact body_ok (tab_call (tab_call (tab_nil _) (E_ref10_Check p (ent_none _ _))) (E_ref14_bind p fuel (ent_none _ _))) rfl ((e_ref14_Bind p _ _ _ _ _ _ _ _ _ _ _ _ _).trans h)
  · exact hF _ _ _ _ _ h
abbrev Ty_ref14_fits : Type 1 := Int → Int → (γ : Type) → (Bool → Option γ) → Option γ
def P_ref14_fits (X : Ty_ref14_fits) (F : Ent3) : Ent3 := fun a s γ K => match a, s with
  | [dat (int i64 v_t), dat (int i64 v_want)], [] => X v_t v_want γ (fun r0 => K ([(dat (Dat.bool r0), Own.none)], []))
  | a, s => F a s γ K
def T_ref14_fits : CallK := noneK
def L_ref14_fits : LoopK := noneL
def Sp.B_ref14_fits (v_t v_want : Int) (γ : Type) (K : Bool → Option γ) : Option γ := bif decide (v_t = v_want) then K true else K (decide (v_t = 0))
theorem e_ref14_fits (p : Par) (v_t v_want) (γ : Type) (K : List Ent × Sig → Option γ) : evFK (cfg p) (T_ref14_fits) (L_ref14_fits) 61 [dat (int i64 v_t), dat (int i64 v_want)] [] γ K = Sp.B_ref14_fits v_t v_want γ (fun r0 => K ([(dat (Dat.bool r0), Own.none)], [])) := by kernel_rfl
def Sp.ref14_fits : Ty_ref14_fits := Sp.B_ref14_fits 
theorem E_ref14_fits (p : Par) {F : Ent3} (hF : EntOk (cfg p) 61 F) : EntOk (cfg p) 61 (P_ref14_fits Sp.ref14_fits F) := by
  intro a s γ K q h
  unfold P_ref14_fits at h
  split at h
  · exact body_ok (tab_nil _) rfl ((e_ref14_fits p _ _ _ _).trans h)
  · exact hF _ _ _ _ _ h
abbrev Ty_ref14_of_L2 : Type 1 := List (List Dat) → Int → Bool → Int → (γ : Type) → (Ex → Int → Bool → Int → Option γ) → Option γ
def P_ref14_of_L2 (X : Ty_ref14_of_L2) (F : Loop3) : Loop3 := fun a s γ K => match a, s with
  | [dat (sl v_l)], ([dat (int i64 v_), dat (Dat.bool v__1), dat (int i64 v_i)], []) => X v_l v_ v__1 v_i γ (fun e x0 x1 x2 => K (e, ([dat (int i64 x0), dat (Dat.bool x1), dat (int i64 x2)], [])))
  | a, s => F a s γ K
def T_ref14_of_L2 (x_ref14_fits : Ty_ref14_fits) : CallK := (addK noneK 61 (P_ref14_fits x_ref14_fits none3))
def L_ref14_of_L2 (x_ref14_fits : Ty_ref14_fits) : LoopK := noneL
def Sp.B_ref14_of_L2 (x_ref14_of_L2 : Ty_ref14_of_L2) (x_ref14_fits : Ty_ref14_fits) (v_l : List (List Dat)) (v_ : Int) (v__1 : Bool) (v_i : Int) (γ : Type) (K : Ex → Int → Bool → Int → Option γ) : Option γ := bif decide (v_i < Int.ofNat (List.length v_l)) then elemAt v_l v_i fun z6 => bif List.length z6 == 1 then cellAt z6 0 fun z7 => Aev.asInt i64 z7 fun z8 => x_ref14_fits z8 1 γ fun z9 => bif !z9 then K Ex.ret 0 false v_i else x_ref14_of_L2 v_l v_ v__1 (IntKind.wrap i64 (v_i + 1)) γ K else none else K (Ex.exit 2) v_ v__1 v_i
theorem e_ref14_of_L2 (p : Par) (x_ref14_of_L2 : Ty_ref14_of_L2) (x_ref14_fits v_l v_ v__1 v_i) (γ : Type) (K : Ex × Vars → Option γ) : roundK (cfg p) (T_ref14_of_L2 x_ref14_fits) (L_ref14_of_L2 x_ref14_fits) 50 2 [dat (sl v_l)] ([dat (int i64 v_), dat (Dat.bool v__1), dat (int i64 v_i)], []) γ (contL (fun v => P_ref14_of_L2 x_ref14_of_L2 noneL3 [dat (sl v_l)] v γ K) K) = Sp.B_ref14_of_L2 x_ref14_of_L2 x_ref14_fits v_l v_ v__1 v_i γ (fun e x0 x1 x2 => K (e, ([dat (int i64 x0), dat (Dat.bool x1), dat (int i64 x2)], []))) := by kernel_rfl
def Sp.ref14_of_L2 : Nat → Ty_ref14_of_L2
  | 0 => fun _ _ _ _ _ _ => none
  | n + 1 => Sp.B_ref14_of_L2 (Sp.ref14_of_L2 n) Sp.ref14_fits
theorem E0_ref14_of_L2 (p : Par)   : ∀ n, EntOkL (cfg p) 50 2 (P_ref14_of_L2 (Sp.ref14_of_L2 n) noneL3) := entL_rounds (tab_call (tab_nil _) (E_ref14_fits p (ent_none _ _))) (by kernel_rfl) (fun c v γ K => by unfold P_ref14_of_L2; split <;> rfl) fun n c v γ K q h => by
  unfold P_ref14_of_L2 at h
  split at h
  · exact (e_ref14_of_L2 p _ _ _ _ _ _ _ _).trans h
  · cases h
theorem E_ref14_of_L2 (p : Par)   (n : Nat) {F : Loop3} (hF : EntOkL (cfg p) 50 2 F) : EntOkL (cfg p) 50 2 (P_ref14_of_L2 (Sp.ref14_of_L2 n) F) := by
  intro c v γ K q h
  unfold P_ref14_of_L2 at h
  split at h
  · exact E0_ref14_of_L2 p n _ _ _ _ _ h
  · exact hF _ _ _ _ _ h
abbrev Ty_ref14_of_L4 : Type 1 := List (List Dat) → Int → Bool → Int → (γ : Type) → (Ex → Int → Bool → Int → Option γ) → Option γ
def P_ref14_of_L4 (X : Ty_ref14_of_L4) (F : Loop3) : Loop3 := fun a s γ K => match a, s with
  | [dat (sl v_l)], ([dat (int i64 v_), dat (Dat.bool v__1), dat (int i64 v_i)], []) => X v_l v_ v__1 v_i γ (fun e x0 x1 x2 => K (e, ([dat (int i64 x0), dat (Dat.bool x1), dat (int i64 x2)], [])))
  | a, s => F a s γ K
def T_ref14_of_L4 (x_ref14_fits : Ty_ref14_fits) : CallK := (addK noneK 61 (P_ref14_fits x_ref14_fits none3))
def L_ref14_of_L4 (x_ref14_fits : Ty_ref14_fits) : LoopK := noneL
def Sp.B_ref14_of_L4 (x_ref14_of_L4 : Ty_ref14_of_L4) (x_ref14_fits : Ty_ref14_fits) (v_l : List (List Dat)) (v_ : Int) (v__1 : Bool) (v_i : Int) (γ : Type) (K : Ex → Int → Bool → Int → Option γ) : Option γ := bif decide (v_i < Int.ofNat (List.length v_l)) then elemAt v_l v_i fun z6 => bif List.length z6 == 1 then cellAt z6 0 fun z7 => Aev.asInt i64 z7 fun z8 => x_ref14_fits z8 2 γ fun z9 => bif !z9 then K Ex.ret 0 false v_i else x_ref14_of_L4 v_l v_ v__1 (IntKind.wrap i64 (v_i + 1)) γ K else none else K (Ex.exit 4) v_ v__1 v_i
theorem e_ref14_of_L4 (p : Par) (x_ref14_of_L4 : Ty_ref14_of_L4) (x_ref14_fits v_l v_ v__1 v_i) (γ : Type) (K : Ex × Vars → Option γ) : roundK (cfg p) (T_ref14_of_L4 x_ref14_fits) (L_ref14_of_L4 x_ref14_fits) 50 4 [dat (sl v_l)] ([dat (int i64 v_), dat (Dat.bool v__1), dat (int i64 v_i)], []) γ (contL (fun v => P_ref14_of_L4 x_ref14_of_L4 noneL3 [dat (sl v_l)] v γ K) K) = Sp.B_ref14_of_L4 x_ref14_of_L4 x_ref14_fits v_l v_ v__1 v_i γ (fun e x0 x1 x2 => K (e, ([dat (int i64 x0), dat (Dat.bool x1), dat (int i64 x2)], []))) := by kernel_rfl
def Sp.ref14_of_L4 : Nat → Ty_ref14_of_L4
  | 0 => fun _ _ _ _ _ _ => none
  | n + 1 => Sp.B_ref14_of_L4 (Sp.ref14_of_L4 n) Sp.ref14_fits
theorem E0_ref14_of_L4 (p : Par)   : ∀ n, EntOkL (cfg p) 50 4 (P_ref14_of_L4 (Sp.ref14_of_L4 n) noneL3) := entL_rounds (tab_call (tab_nil _) (E_ref14_fits p (ent_none _ _))) (by kernel_rfl) (fun c v γ K => by unfold P_ref14_of_L4; split <;> rfl) fun n c v γ K q h => by
  unfold P_ref14_of_L4 at h
  split at h
  · exact (e_ref14_of_L4 p _ _ _ _ _ _ _ _).trans h
  · cases h
theorem E_ref14_of_L4 (p : Par)   (n : Nat) {F : Loop3} (hF : EntOkL (cfg p) 50 4 F) : EntOkL (cfg p) 50 4 (P_ref14_of_L4 (Sp.ref14_of_L4 n) F) := by
  intro c v γ K q h
  unfold P_ref14_of_L4 at h
  split at h
  · exact E0_ref14_of_L4 p n _ _ _ _ _ h
  · exact hF _ _ _ _ _ h
abbrev Ty_ref14_of : Type 1 := Int → Int → Int → Int → ByteArray → ByteArray → ByteArray → List (List Dat) → List (List Dat) → (γ : Type) → (Int → Bool → Option γ) → Option γ
def P_ref14_of (X : Ty_ref14_of) (F : Ent3) : Ent3 := fun a s γ K => match a, s with
  | [agg [(int i64 v_e0, Own.none), (int i64 v_e1, Own.none), (int i64 v_e2, Own.none), (int i64 v_e3, Own.none), (str v_e4, Own.none), (str v_e5, Own.none), (str v_e6, Own.none), (sl v_e7, Own.none)], dat (sl v_l)], [] => X v_e0 v_e1 v_e2 v_e3 v_e4 v_e5 v_e6 v_e7 v_l γ (fun r0 r1 => K ([(dat (int i64 r0), Own.none), (dat (Dat.bool r1), Own.none)], []))
  | a, s => F a s γ K
def T_ref14_of (x_ref14_fits : Ty_ref14_fits) (x_ref14_of_L2 : Ty_ref14_of_L2) (x_ref14_of_L4 : Ty_ref14_of_L4) : CallK := (addK noneK 61 (P_ref14_fits x_ref14_fits none3))
def L_ref14_of (x_ref14_fits : Ty_ref14_fits) (x_ref14_of_L2 : Ty_ref14_of_L2) (x_ref14_of_L4 : Ty_ref14_of_L4) : LoopK := (addL (addL noneL 50 2 (P_ref14_of_L2 x_ref14_of_L2 noneL3)) 50 4 (P_ref14_of_L4 x_ref14_of_L4 noneL3))
def Sp.B_ref14_of (x_ref14_fits : Ty_ref14_fits) (x_ref14_of_L2 : Ty_ref14_of_L2) (x_ref14_of_L4 : Ty_ref14_of_L4) (v_e0 v_e1 v_e2 v_e3 : Int) (v_e4 v_e5 v_e6 : ByteArray) (v_e7 v_l : List (List Dat)) (γ : Type) (K : Int → Bool → Option γ) : Option γ := bif decide (v_e0 = 4) then bif decide (v_e1 = 1) then bif decide (v_e1 = 1) then K 2 true else bif decide (v_e1 = 3) then elemAt v_l 0 fun z11 => bif List.length z11 == 1 then cellAt z11 0 fun z12 => Aev.asInt i64 z12 fun z13 => x_ref14_fits z13 2 γ fun z14 => K 2 z14 else none else elemAt v_l 0 fun z15 => bif List.length z15 == 1 then cellAt z15 0 fun z16 => Aev.asInt i64 z16 fun z17 => K z17 true else none else bif decide (v_e1 = 2) then K 2 true else bif decide (v_e1 = 3) then elemAt v_l 0 fun z18 => bif List.length z18 == 1 then cellAt z18 0 fun z19 => Aev.asInt i64 z19 fun z20 => x_ref14_fits z20 2 γ fun z21 => K 2 z21 else none else elemAt v_l 0 fun z22 => bif List.length z22 == 1 then cellAt z22 0 fun z23 => Aev.asInt i64 z23 fun z24 => K z24 true else none else bif decide (v_e1 ≤ 3) then x_ref14_of_L2 v_l 0 false 0 γ fun z25 z26 z27 z28 => bif Ex.isExit z25 2 then K 1 true else bif Ex.isRet z25 then K z26 z27 else none else bif decide (v_e1 ≤ 9) then elemAt v_l 0 fun z29 => bif List.length z29 == 1 then cellAt z29 0 fun z30 => Aev.asInt i64 z30 fun z31 => elemAt v_l 1 fun z32 => bif List.length z32 == 1 then cellAt z32 0 fun z33 => Aev.asInt i64 z33 fun z34 => bif decide (z31 = z34) then K 1 true else elemAt v_l 0 fun z35 => bif List.length z35 == 1 then cellAt z35 0 fun z36 => Aev.asInt i64 z36 fun z37 => bif decide (z37 = 0) then K 1 true else elemAt v_l 1 fun z38 => bif List.length z38 == 1 then cellAt z38 0 fun z39 => Aev.asInt i64 z39 fun z40 => K 1 (decide (z40 = 0)) else none else none else none else none else bif decide (v_e1 ≤ 15) then x_ref14_of_L4 v_l 0 false 0 γ fun z41 z42 z43 z44 => bif Ex.isExit z41 4 then K 2 true else bif Ex.isRet z41 then K z42 z43 else none else K 1 true
theorem e_ref14_of (p : Par) (x_ref14_fits x_ref14_of_L2 x_ref14_of_L4 v_e0 v_e1 v_e2 v_e3 v_e4 v_e5 v_e6 v_e7 v_l) (γ : Type) (K : List Ent × Sig → Option γ) : evFK (cfg p) (T_ref14_of x_ref14_fits x_ref14_of_L2 x_ref14_of_L4) (L_ref14_of x_ref14_fits x_ref14_of_L2 x_ref14_of_L4) 50 [agg [(int i64 v_e0, Own.none), (int i64 v_e1, Own.none), (int i64 v_e2, Own.none), (int i64 v_e3, Own.none), (str v_e4, Own.none), (str v_e5, Own.none), (str v_e6, Own.none), (sl v_e7, Own.none)], dat (sl v_l)] [] γ K = Sp.B_ref14_of x_ref14_fits x_ref14_of_L2 x_ref14_of_L4 v_e0 v_e1 v_e2 v_e3 v_e4 v_e5 v_e6 v_e7 v_l γ (fun r0 r1 => K ([(dat (int i64 r0), Own.none), (dat (Dat.bool r1), Own.none)], [])) := by kernel_rfl
def Sp.ref14_of : Ty_ref14_of := Sp.B_ref14_of Sp.ref14_fits (Sp.ref14_of_L2 fuel) (Sp.ref14_of_L4 fuel)
theorem E_ref14_of (p : Par) {F : Ent3} (hF : EntOk (cfg p) 50 F) : EntOk (cfg p) 50 (P_ref14_of Sp.ref14_of F) := by
  intro a s γ K q h
  unfold P_ref14_of at h
  split at h
  · exact body_ok (tab_loop (tab_loop (tab_call (tab_nil _) (E_ref14_fits p (ent_none _ _))) (E_ref14_of_L2 p fuel (entL_none _ _ _))) (E_ref14_of_L4 p fuel (entL_none _ _ _))) rfl ((e_ref14_of p _ _ _ _ _ _ _ _ _ _ _ _ _ _).trans h)
  · exact hF _ _ _ _ _ h
abbrev Ty_ref14_kind : Type 1 := Int → Int → Int → Int → ByteArray → ByteArray → ByteArray → List (List Dat) → List (List Dat) → (γ : Type) → (Int → Int → Option γ) → Option γ
def P_ref14_kind (X : Ty_ref14_kind) (F : Ent3) : Ent3 := fun a s γ K => match a, s with
  | [agg [(int i64 v_e0, Own.none), (int i64 v_e1, Own.none), (int i64 v_e2, Own.none), (int i64 v_e3, Own.none), (str v_e4, Own.none), (str v_e5, Own.none), (str v_e6, Own.none), (sl v_e7, Own.none)], dat (sl v_cols)], [] => X v_e0 v_e1 v_e2 v_e3 v_e4 v_e5 v_e6 v_e7 v_cols γ (fun r0 r1 => K ([(dat (int i64 r0), Own.none), (dat (int i64 r1), Own.none)], []))
  | a, s => F a s γ K
abbrev Ty_ref14_kind_L1 : Type 1 := List (List Dat) → Int → Int → List (List Dat) → Int → Int → Int → Int → Int → ByteArray → ByteArray → ByteArray → List (List Dat) → (γ : Type) → (Ex → Int → Int → List (List Dat) → Int → Int → Int → Int → Int → ByteArray → ByteArray → ByteArray → List (List Dat) → Option γ) → Option γ
def P_ref14_kind_L1 (X : Ty_ref14_kind_L1) (F : Loop3) : Loop3 := fun a s γ K => match a, s with
  | [dat (sl v_cols), AVal.loc 2 0], ([dat (int i64 v_), dat (int i64 v__1), dat (sl v_l), dat (int i64 v_i), agg [(int i64 w0, Own.none), (int i64 w1, Own.none), (int i64 w2, Own.none), (int i64 w3, Own.none), (str w4, Own.none), (str w5, Own.none), (str w6, Own.none), (sl w7, Own.none)]], []) => X v_cols v_ v__1 v_l v_i w0 w1 w2 w3 w4 w5 w6 w7 γ (fun e x0 x1 x2 x3 x4 x5 x6 x7 x8 x9 x10 x11 => K (e, ([dat (int i64 x0), dat (int i64 x1), dat (sl x2), dat (int i64 x3), agg [(int i64 x4, Own.none), (int i64 x5, Own.none), (int i64 x6, Own.none), (int i64 x7, Own.none), (str x8, Own.none), (str x9, Own.none), (str x10, Own.none), (sl x11, Own.none)]], [])))
  | a, s => F a s γ K
def T_ref14_kind_L1 (x_ref14_kind : Ty_ref14_kind) : CallK := (addK noneK 37 (P_ref14_kind x_ref14_kind none3))
def L_ref14_kind_L1 (x_ref14_kind : Ty_ref14_kind) : LoopK := noneL
def Sp.B_ref14_kind_L1 (x_ref14_kind_L1 : Ty_ref14_kind_L1) (x_ref14_kind : Ty_ref14_kind) (v_cols : List (List Dat)) (v_ v__1 : Int) (v_l : List (List Dat)) (v_i w0 w1 w2 w3 : Int) (w4 w5 w6 : ByteArray) (w7 : List (List Dat)) (γ : Type) (K : Ex → Int → Int → List (List Dat) → Int → Int → Int → Int → Int → ByteArray → ByteArray → ByteArray → List (List Dat) → Option γ) : Option γ := bif sized v_l 1 then bif decide (v_i < Int.ofNat (List.length w7)) then elemAt w7 v_i fun z15 => bif List.length z15 == 8 then cellAt z15 0 fun z16 => Aev.asInt i64 z16 fun z17 => cellAt z15 1 fun z18 => Aev.asInt i64 z18 fun z19 => cellAt z15 2 fun z20 => Aev.asInt i64 z20 fun z21 => cellAt z15 3 fun z22 => Aev.asInt i64 z22 fun z23 => cellAt z15 4 fun z24 => asStr z24 fun z25 => cellAt z15 5 fun z26 => asStr z26 fun z27 => cellAt z15 6 fun z28 => asStr z28 fun z29 => cellAt z15 7 fun z30 => asSl z30 fun z31 => x_ref14_kind z17 z19 z21 z23 z25 z27 z29 z31 v_cols γ fun z32 z33 => bif !decide (z33 = 0) then K Ex.ret 0 z33 v_l v_i w0 w1 w2 w3 w4 w5 w6 w7 else bif sized v_l 1 && true && true && decide ((List.length v_l + 1) * 9 ≤ 70368744177664) && true then x_ref14_kind_L1 v_cols v_ v__1 (v_l ++ [[int i64 z32]]) (IntKind.wrap i64 (v_i + 1)) w0 w1 w2 w3 w4 w5 w6 w7 γ K else none else none else K (Ex.exit 1) v_ v__1 v_l v_i w0 w1 w2 w3 w4 w5 w6 w7 else none
theorem e_ref14_kind_L1 (p : Par) (x_ref14_kind_L1 : Ty_ref14_kind_L1) (x_ref14_kind v_cols v_ v__1 v_l v_i w0 w1 w2 w3 w4 w5 w6 w7) (γ : Type) (K : Ex × Vars → Option γ) : roundK (cfg p) (T_ref14_kind_L1 x_ref14_kind) (L_ref14_kind_L1 x_ref14_kind) 37 1 [dat (sl v_cols), AVal.loc 2 0] ([dat (int i64 v_), dat (int i64 v__1), dat (sl v_l), dat (int i64 v_i), agg [(int i64 w0, Own.none), (int i64 w1, Own.none), (int i64 w2, Own.none), (int i64 w3, Own.none), (str w4, Own.none), (str w5, Own.none), (str w6, Own.none), (sl w7, Own.none)]], []) γ (contL (fun v => P_ref14_kind_L1 x_ref14_kind_L1 noneL3 [dat (sl v_cols), AVal.loc 2 0] v γ K) K) = Sp.B_ref14_kind_L1 x_ref14_kind_L1 x_ref14_kind v_cols v_ v__1 v_l v_i w0 w1 w2 w3 w4 w5 w6 w7 γ (fun e x0 x1 x2 x3 x4 x5 x6 x7 x8 x9 x10 x11 => K (e, ([dat (int i64 x0), dat (int i64 x1), dat (sl x2), dat (int i64 x3), agg [(int i64 x4, Own.none), (int i64 x5, Own.none), (int i64 x6, Own.none), (int i64 x7, Own.none), (str x8, Own.none), (str x9, Own.none), (str x10, Own.none), (sl x11, Own.none)]], []))) := by kernel_rfl
def T_ref14_kind (x_ref14_kind_L1 : Ty_ref14_kind_L1) (x_ref14_of : Ty_ref14_of) : CallK := (addK noneK 50 (P_ref14_of x_ref14_of none3))
def L_ref14_kind (x_ref14_kind_L1 : Ty_ref14_kind_L1) (x_ref14_of : Ty_ref14_of) : LoopK := (addL noneL 37 1 (P_ref14_kind_L1 x_ref14_kind_L1 noneL3))
def Sp.B_ref14_kind (x_ref14_kind_L1 : Ty_ref14_kind_L1) (x_ref14_of : Ty_ref14_of) (v_e0 v_e1 v_e2 v_e3 : Int) (v_e4 v_e5 v_e6 : ByteArray) (v_e7 v_cols : List (List Dat)) (γ : Type) (K : Int → Int → Option γ) : Option γ := bif decide (v_e0 = 1) then K v_e2 0 else bif decide (v_e0 = 2) then bif decide (Int.ofNat (List.length v_cols) ≤ v_e1) then K 0 140 else elemAt v_cols v_e1 fun z11 => bif List.length z11 == 3 then cellAt (List.drop 2 z11) 0 fun z12 => Aev.asInt i64 z12 fun z13 => K z13 0 else none else x_ref14_kind_L1 v_cols 0 0 [] 0 v_e0 v_e1 v_e2 v_e3 v_e4 v_e5 v_e6 v_e7 γ fun z14 z15 z16 z17 z18 z19 z20 z21 z22 z23 z24 z25 z26 => bif sized z17 1 then bif Ex.isExit z14 1 then x_ref14_of z19 z20 z21 z22 z23 z24 z25 z26 z17 γ fun z27 z28 => bif !z28 then K 0 141 else K z27 0 else bif Ex.isRet z14 then K z15 z16 else none else none
theorem e_ref14_kind (p : Par) (x_ref14_kind_L1 x_ref14_of v_e0 v_e1 v_e2 v_e3 v_e4 v_e5 v_e6 v_e7 v_cols) (γ : Type) (K : List Ent × Sig → Option γ) : evFK (cfg p) (T_ref14_kind x_ref14_kind_L1 x_ref14_of) (L_ref14_kind x_ref14_kind_L1 x_ref14_of) 37 [agg [(int i64 v_e0, Own.none), (int i64 v_e1, Own.none), (int i64 v_e2, Own.none), (int i64 v_e3, Own.none), (str v_e4, Own.none), (str v_e5, Own.none), (str v_e6, Own.none), (sl v_e7, Own.none)], dat (sl v_cols)] [] γ K = Sp.B_ref14_kind x_ref14_kind_L1 x_ref14_of v_e0 v_e1 v_e2 v_e3 v_e4 v_e5 v_e6 v_e7 v_cols γ (fun r0 r1 => K ([(dat (int i64 r0), Own.none), (dat (int i64 r1), Own.none)], [])) := by kernel_rfl
def Sp.ref14_kind_L1 (R_ref14_kind : Ty_ref14_kind) : Nat → Ty_ref14_kind_L1
  | 0 => fun _ _ _ _ _ _ _ _ _ _ _ _ _ _ _ => none
  | n + 1 => Sp.B_ref14_kind_L1 (Sp.ref14_kind_L1 R_ref14_kind n) R_ref14_kind
theorem E0_ref14_kind_L1 (p : Par) (R_ref14_kind : Ty_ref14_kind) (h_ref14_kind : ∀ {F : Ent3}, EntOk (cfg p) 37 F → EntOk (cfg p) 37 (P_ref14_kind R_ref14_kind F)) : ∀ n, EntOkL (cfg p) 37 1 (P_ref14_kind_L1 (Sp.ref14_kind_L1 R_ref14_kind n) noneL3) := entL_rounds (tab_call (tab_nil _) (h_ref14_kind (ent_none _ _))) (by kernel_rfl) (fun c v γ K => by unfold P_ref14_kind_L1; split <;> rfl) fun n c v γ K q h => by
  unfold P_ref14_kind_L1 at h
  split at h
  · exact (e_ref14_kind_L1 p _ _ _ _ _ _ _ _ _ _ _ _ _ _ _ _ _).trans h
  · cases h
theorem E_ref14_kind_L1 (p : Par) (R_ref14_kind : Ty_ref14_kind) (h_ref14_kind : ∀ {F : Ent3}, EntOk (cfg p) 37 F → EntOk (cfg p) 37 (P_ref14_kind R_ref14_kind F)) (n : Nat) {F : Loop3} (hF : EntOkL (cfg p) 37 1 F) : EntOkL (cfg p) 37 1 (P_ref14_kind_L1 (Sp.ref14_kind_L1 R_ref14_kind n) F) := by
  intro c v γ K q h
  unfold P_ref14_kind_L1 at h
  split at h
  · exact E0_ref14_kind_L1 p R_ref14_kind h_ref14_kind n _ _ _ _ _ h
  · exact hF _ _ _ _ _ h
def Sp.ref14_kind : Nat → Ty_ref14_kind
  | 0 => fun _ _ _ _ _ _ _ _ _ _ _ => none
  | n + 1 => Sp.B_ref14_kind (Sp.ref14_kind_L1 (Sp.ref14_kind n) fuel) Sp.ref14_of
theorem G80_ok (p : Par) (n : Nat) : (∀ {F : Ent3}, EntOk (cfg p) 37 F → EntOk (cfg p) 37 (P_ref14_kind (Sp.ref14_kind n) F)) := by
  induction n with
  | zero =>
    refine ?_
    · intro F hF a s γ K q h
      unfold P_ref14_kind at h
      split at h
      · cases h
      · exact hF _ _ _ _ _ h
  | succ n ih =>
    refine ?_
    · intro F hF a s γ K q h
      unfold P_ref14_kind at h
      split at h
      · exact body_ok (tab_loop (tab_call (tab_nil _) (E_ref14_of p (ent_none _ _))) (E_ref14_kind_L1 p (Sp.ref14_kind n) ih fuel (entL_none _ _ _))) rfl ((e_ref14_kind p _ _ _ _ _ _ _ _ _ _ _ _ _).trans h)
      · exact hF _ _ _ _ _ h
theorem E_ref14_kind (p : Par) (n : Nat) {F : Ent3} (hF : EntOk (cfg p) 37 F) : EntOk (cfg p) 37 (P_ref14_kind (Sp.ref14_kind n) F) := (G80_ok p n) hF
abbrev Ty_ref14_Type : Type 1 := Int → Int → Int → Int → ByteArray → ByteArray → ByteArray → List (List Dat) → List (List Dat) → (γ : Type) → (Int → Int → Option γ) → Option γ
def P_ref14_Type (X : Ty_ref14_Type) (F : Ent3) : Ent3 := fun a s γ K => match a, s with
  | [agg [(int i64 v_e0, Own.none), (int i64 v_e1, Own.none), (int i64 v_e2, Own.none), (int i64 v_e3, Own.none), (str v_e4, Own.none), (str v_e5, Own.none), (str v_e6, Own.none), (sl v_e7, Own.none)], dat (sl v_cols)], [] => X v_e0 v_e1 v_e2 v_e3 v_e4 v_e5 v_e6 v_e7 v_cols γ (fun r0 r1 => K ([(dat (int i64 r0), Own.none), (dat (int i64 r1), Own.none)], []))
  | a, s => F a s γ K
def T_ref14_Type (x_ref10_Check : Ty_ref10_Check) (x_ref14_kind : Ty_ref14_kind) : CallK := (addK (addK noneK 32 (P_ref10_Check x_ref10_Check none3)) 37 (P_ref14_kind x_ref14_kind none3))
def L_ref14_Type (x_ref10_Check : Ty_ref10_Check) (x_ref14_kind : Ty_ref14_kind) : LoopK := noneL
def Sp.B_ref14_Type (x_ref10_Check : Ty_ref10_Check) (x_ref14_kind : Ty_ref14_kind) (v_e0 v_e1 v_e2 v_e3 : Int) (v_e4 v_e5 v_e6 : ByteArray) (v_e7 v_cols : List (List Dat)) (γ : Type) (K : Int → Int → Option γ) : Option γ := x_ref10_Check v_e0 v_e1 v_e2 v_e3 v_e4 v_e5 v_e6 v_e7 γ fun z11 => bif !z11 then K 0 100 else x_ref14_kind v_e0 v_e1 v_e2 v_e3 v_e4 v_e5 v_e6 v_e7 v_cols γ fun z12 z13 => K z12 z13
theorem e_ref14_Type (p : Par) (x_ref10_Check x_ref14_kind v_e0 v_e1 v_e2 v_e3 v_e4 v_e5 v_e6 v_e7 v_cols) (γ : Type) (K : List Ent × Sig → Option γ) : evFK (cfg p) (T_ref14_Type x_ref10_Check x_ref14_kind) (L_ref14_Type x_ref10_Check x_ref14_kind) 16 [agg [(int i64 v_e0, Own.none), (int i64 v_e1, Own.none), (int i64 v_e2, Own.none), (int i64 v_e3, Own.none), (str v_e4, Own.none), (str v_e5, Own.none), (str v_e6, Own.none), (sl v_e7, Own.none)], dat (sl v_cols)] [] γ K = Sp.B_ref14_Type x_ref10_Check x_ref14_kind v_e0 v_e1 v_e2 v_e3 v_e4 v_e5 v_e6 v_e7 v_cols γ (fun r0 r1 => K ([(dat (int i64 r0), Own.none), (dat (int i64 r1), Own.none)], [])) := by kernel_rfl
def Sp.ref14_Type : Ty_ref14_Type := Sp.B_ref14_Type Sp.ref10_Check (Sp.ref14_kind fuel)
theorem E_ref14_Type (p : Par) {F : Ent3} (hF : EntOk (cfg p) 16 F) : EntOk (cfg p) 16 (P_ref14_Type Sp.ref14_Type F) := by
  intro a s γ K q h
  unfold P_ref14_Type at h
  split at h
  · exact body_ok (tab_call (tab_call (tab_nil _) (E_ref10_Check p (ent_none _ _))) (E_ref14_kind p fuel (ent_none _ _))) rfl ((e_ref14_Type p _ _ _ _ _ _ _ _ _ _ _ _ _).trans h)
  · exact hF _ _ _ _ _ h
abbrev Ty_ref10_Same : Type 1 := Int → Int → Int → Int → ByteArray → ByteArray → ByteArray → List (List Dat) → Int → Int → Int → Int → ByteArray → ByteArray → ByteArray → List (List Dat) → (γ : Type) → (Bool → Option γ) → Option γ
def P_ref10_Same (X : Ty_ref10_Same) (F : Ent3) : Ent3 := fun a s γ K => match a, s with
  | [agg [(int i64 v_a0, Own.none), (int i64 v_a1, Own.none), (int i64 v_a2, Own.none), (int i64 v_a3, Own.none), (str v_a4, Own.none), (str v_a5, Own.none), (str v_a6, Own.none), (sl v_a7, Own.none)], agg [(int i64 v_b0, Own.none), (int i64 v_b1, Own.none), (int i64 v_b2, Own.none), (int i64 v_b3, Own.none), (str v_b4, Own.none), (str v_b5, Own.none), (str v_b6, Own.none), (sl v_b7, Own.none)]], [] => X v_a0 v_a1 v_a2 v_a3 v_a4 v_a5 v_a6 v_a7 v_b0 v_b1 v_b2 v_b3 v_b4 v_b5 v_b6 v_b7 γ (fun r0 => K ([(dat (Dat.bool r0), Own.none)], []))
  | a, s => F a s γ K
abbrev Ty_ref10_Same_L0 : Type 1 := Bool → Int → Int → Int → Int → Int → ByteArray → ByteArray → ByteArray → List (List Dat) → Int → Int → Int → Int → ByteArray → ByteArray → ByteArray → List (List Dat) → (γ : Type) → (Ex → Bool → Int → Int → Int → Int → Int → ByteArray → ByteArray → ByteArray → List (List Dat) → Int → Int → Int → Int → ByteArray → ByteArray → ByteArray → List (List Dat) → Option γ) → Option γ
def P_ref10_Same_L0 (X : Ty_ref10_Same_L0) (F : Loop3) : Loop3 := fun a s γ K => match a, s with
  | [AVal.loc 2 0, AVal.loc 3 0], ([dat (Dat.bool v_), dat (int i64 v_i), agg [(int i64 w0, Own.none), (int i64 w1, Own.none), (int i64 w2, Own.none), (int i64 w3, Own.none), (str w4, Own.none), (str w5, Own.none), (str w6, Own.none), (sl w7, Own.none)], agg [(int i64 w0_1, Own.none), (int i64 w1_1, Own.none), (int i64 w2_1, Own.none), (int i64 w3_1, Own.none), (str w4_1, Own.none), (str w5_1, Own.none), (str w6_1, Own.none), (sl w7_1, Own.none)]], []) => X v_ v_i w0 w1 w2 w3 w4 w5 w6 w7 w0_1 w1_1 w2_1 w3_1 w4_1 w5_1 w6_1 w7_1 γ (fun e x0 x1 x2 x3 x4 x5 x6 x7 x8 x9 x10 x11 x12 x13 x14 x15 x16 x17 => K (e, ([dat (Dat.bool x0), dat (int i64 x1), agg [(int i64 x2, Own.none), (int i64 x3, Own.none), (int i64 x4, Own.none), (int i64 x5, Own.none), (str x6, Own.none), (str x7, Own.none), (str x8, Own.none), (sl x9, Own.none)], agg [(int i64 x10, Own.none), (int i64 x11, Own.none), (int i64 x12, Own.none), (int i64 x13, Own.none), (str x14, Own.none), (str x15, Own.none), (str x16, Own.none), (sl x17, Own.none)]], [])))
  | a, s => F a s γ K
def T_ref10_Same_L0 (x_ref10_Same : Ty_ref10_Same) : CallK := (addK noneK 17 (P_ref10_Same x_ref10_Same none3))
def L_ref10_Same_L0 (x_ref10_Same : Ty_ref10_Same) : LoopK := noneL
def Sp.B_ref10_Same_L0 (x_ref10_Same_L0 : Ty_ref10_Same_L0) (x_ref10_Same : Ty_ref10_Same) (v_ : Bool) (v_i w0 w1 w2 w3 : Int) (w4 w5 w6 : ByteArray) (w7 : List (List Dat)) (w0_1 w1_1 w2_1 w3_1 : Int) (w4_1 w5_1 w6_1 : ByteArray) (w7_1 : List (List Dat)) (γ : Type) (K : Ex → Bool → Int → Int → Int → Int → Int → ByteArray → ByteArray → ByteArray → List (List Dat) → Int → Int → Int → Int → ByteArray → ByteArray → ByteArray → List (List Dat) → Option γ) : Option γ := bif decide (v_i < Int.ofNat (List.length w7)) then elemAt w7 v_i fun z20 => bif List.length z20 == 8 then cellAt z20 0 fun z21 => Aev.asInt i64 z21 fun z22 => cellAt z20 1 fun z23 => Aev.asInt i64 z23 fun z24 => cellAt z20 2 fun z25 => Aev.asInt i64 z25 fun z26 => cellAt z20 3 fun z27 => Aev.asInt i64 z27 fun z28 => cellAt z20 4 fun z29 => asStr z29 fun z30 => cellAt z20 5 fun z31 => asStr z31 fun z32 => cellAt z20 6 fun z33 => asStr z33 fun z34 => cellAt z20 7 fun z35 => asSl z35 fun z36 => elemAt w7_1 v_i fun z37 => bif List.length z37 == 8 then cellAt z37 0 fun z38 => Aev.asInt i64 z38 fun z39 => cellAt z37 1 fun z40 => Aev.asInt i64 z40 fun z41 => cellAt z37 2 fun z42 => Aev.asInt i64 z42 fun z43 => cellAt z37 3 fun z44 => Aev.asInt i64 z44 fun z45 => cellAt z37 4 fun z46 => asStr z46 fun z47 => cellAt z37 5 fun z48 => asStr z48 fun z49 => cellAt z37 6 fun z50 => asStr z50 fun z51 => cellAt z37 7 fun z52 => asSl z52 fun z53 => x_ref10_Same z22 z24 z26 z28 z30 z32 z34 z36 z39 z41 z43 z45 z47 z49 z51 z53 γ fun z54 => bif !z54 then K Ex.ret false v_i w0 w1 w2 w3 w4 w5 w6 w7 w0_1 w1_1 w2_1 w3_1 w4_1 w5_1 w6_1 w7_1 else x_ref10_Same_L0 v_ (IntKind.wrap i64 (v_i + 1)) w0 w1 w2 w3 w4 w5 w6 w7 w0_1 w1_1 w2_1 w3_1 w4_1 w5_1 w6_1 w7_1 γ K else none else none else K (Ex.exit 0) v_ v_i w0 w1 w2 w3 w4 w5 w6 w7 w0_1 w1_1 w2_1 w3_1 w4_1 w5_1 w6_1 w7_1
theorem e_ref10_Same_L0 (p : Par) (x_ref10_Same_L0 : Ty_ref10_Same_L0) (x_ref10_Same v_ v_i w0 w1 w2 w3 w4 w5 w6 w7 w0_1 w1_1 w2_1 w3_1 w4_1 w5_1 w6_1 w7_1) (γ : Type) (K : Ex × Vars → Option γ) : roundK (cfg p) (T_ref10_Same_L0 x_ref10_Same) (L_ref10_Same_L0 x_ref10_Same) 17 0 [AVal.loc 2 0, AVal.loc 3 0] ([dat (Dat.bool v_), dat (int i64 v_i), agg [(int i64 w0, Own.none), (int i64 w1, Own.none), (int i64 w2, Own.none), (int i64 w3, Own.none), (str w4, Own.none), (str w5, Own.none), (str w6, Own.none), (sl w7, Own.none)], agg [(int i64 w0_1, Own.none), (int i64 w1_1, Own.none), (int i64 w2_1, Own.none), (int i64 w3_1, Own.none), (str w4_1, Own.none), (str w5_1, Own.none), (str w6_1, Own.none), (sl w7_1, Own.none)]], []) γ (contL (fun v => P_ref10_Same_L0 x_ref10_Same_L0 noneL3 [AVal.loc 2 0, AVal.loc 3 0] v γ K) K) = Sp.B_ref10_Same_L0 x_ref10_Same_L0 x_ref10_Same v_ v_i w0 w1 w2 w3 w4 w5 w6 w7 w0_1 w1_1 w2_1 w3_1 w4_1 w5_1 w6_1 w7_1 γ (fun e x0 x1 x2 x3 x4 x5 x6 x7 x8 x9 x10 x11 x12 x13 x14 x15 x16 x17 => K (e, ([dat (Dat.bool x0), dat (int i64 x1), agg [(int i64 x2, Own.none), (int i64 x3, Own.none), (int i64 x4, Own.none), (int i64 x5, Own.none), (str x6, Own.none), (str x7, Own.none), (str x8, Own.none), (sl x9, Own.none)], agg [(int i64 x10, Own.none), (int i64 x11, Own.none), (int i64 x12, Own.none), (int i64 x13, Own.none), (str x14, Own.none), (str x15, Own.none), (str x16, Own.none), (sl x17, Own.none)]], []))) := by kernel_rfl
def T_ref10_Same (x_ref10_Same_L0 : Ty_ref10_Same_L0) : CallK := noneK
def L_ref10_Same (x_ref10_Same_L0 : Ty_ref10_Same_L0) : LoopK := (addL noneL 17 0 (P_ref10_Same_L0 x_ref10_Same_L0 noneL3))
def Sp.B_ref10_Same (x_ref10_Same_L0 : Ty_ref10_Same_L0) (v_a0 v_a1 v_a2 v_a3 : Int) (v_a4 v_a5 v_a6 : ByteArray) (v_a7 : List (List Dat)) (v_b0 v_b1 v_b2 v_b3 : Int) (v_b4 v_b5 v_b6 : ByteArray) (v_b7 : List (List Dat)) (γ : Type) (K : Bool → Option γ) : Option γ := bif !decide (v_a0 = v_b0) then K false else bif !decide (v_a1 = v_b1) then K false else bif !(decide (v_a2 = v_b2) && (decide (v_a3 = v_b3) && (decide (v_a4 = v_b4) && true))) then K false else bif !decide (v_a5 = v_b5) then K false else bif !decide (v_a6 = v_b6) then K false else bif !decide (Int.ofNat (List.length v_a7) = Int.ofNat (List.length v_b7)) then K false else x_ref10_Same_L0 false 0 v_a0 v_a1 v_a2 v_a3 v_a4 v_a5 v_a6 v_a7 v_b0 v_b1 v_b2 v_b3 v_b4 v_b5 v_b6 v_b7 γ fun z18 z19 z20 z21 z22 z23 z24 z25 z26 z27 z28 z29 z30 z31 z32 z33 z34 z35 z36 => bif Ex.isExit z18 0 then K true else bif Ex.isRet z18 then K z19 else none
theorem e_ref10_Same (p : Par) (x_ref10_Same_L0 v_a0 v_a1 v_a2 v_a3 v_a4 v_a5 v_a6 v_a7 v_b0 v_b1 v_b2 v_b3 v_b4 v_b5 v_b6 v_b7) (γ : Type) (K : List Ent × Sig → Option γ) : evFK (cfg p) (T_ref10_Same x_ref10_Same_L0) (L_ref10_Same x_ref10_Same_L0) 17 [agg [(int i64 v_a0, Own.none), (int i64 v_a1, Own.none), (int i64 v_a2, Own.none), (int i64 v_a3, Own.none), (str v_a4, Own.none), (str v_a5, Own.none), (str v_a6, Own.none), (sl v_a7, Own.none)], agg [(int i64 v_b0, Own.none), (int i64 v_b1, Own.none), (int i64 v_b2, Own.none), (int i64 v_b3, Own.none), (str v_b4, Own.none), (str v_b5, Own.none), (str v_b6, Own.none), (sl v_b7, Own.none)]] [] γ K = Sp.B_ref10_Same x_ref10_Same_L0 v_a0 v_a1 v_a2 v_a3 v_a4 v_a5 v_a6 v_a7 v_b0 v_b1 v_b2 v_b3 v_b4 v_b5 v_b6 v_b7 γ (fun r0 => K ([(dat (Dat.bool r0), Own.none)], [])) := by kernel_rfl
def Sp.ref10_Same_L0 (R_ref10_Same : Ty_ref10_Same) : Nat → Ty_ref10_Same_L0
  | 0 => fun _ _ _ _ _ _ _ _ _ _ _ _ _ _ _ _ _ _ _ _ => none
  | n + 1 => Sp.B_ref10_Same_L0 (Sp.ref10_Same_L0 R_ref10_Same n) R_ref10_Same
theorem E0_ref10_Same_L0 (p : Par) (R_ref10_Same : Ty_ref10_Same) (h_ref10_Same : ∀ {F : Ent3}, EntOk (cfg p) 17 F → EntOk (cfg p) 17 (P_ref10_Same R_ref10_Same F)) : ∀ n, EntOkL (cfg p) 17 0 (P_ref10_Same_L0 (Sp.ref10_Same_L0 R_ref10_Same n) noneL3) := entL_rounds (tab_call (tab_nil _) (h_ref10_Same (ent_none _ _))) (by kernel_rfl) (fun c v γ K => by unfold P_ref10_Same_L0; split <;> rfl) fun n c v γ K q h => by
  unfold P_ref10_Same_L0 at h
  split at h
  · exact (e_ref10_Same_L0 p _ _ _ _ _ _ _ _ _ _ _ _ _ _ _ _ _ _ _ _ _ _).trans h
  · cases h
theorem E_ref10_Same_L0 (p : Par) (R_ref10_Same : Ty_ref10_Same) (h_ref10_Same : ∀ {F : Ent3}, EntOk (cfg p) 17 F → EntOk (cfg p) 17 (P_ref10_Same R_ref10_Same F)) (n : Nat) {F : Loop3} (hF : EntOkL (cfg p) 17 0 F) : EntOkL (cfg p) 17 0 (P_ref10_Same_L0 (Sp.ref10_Same_L0 R_ref10_Same n) F) := by
  intro c v γ K q h
  unfold P_ref10_Same_L0 at h
  split at h
  · exact E0_ref10_Same_L0 p R_ref10_Same h_ref10_Same n _ _ _ _ _ h
  · exact hF _ _ _ _ _ h
def Sp.ref10_Same : Nat → Ty_ref10_Same
  | 0 => fun _ _ _ _ _ _ _ _ _ _ _ _ _ _ _ _ _ _ => none
  | n + 1 => Sp.B_ref10_Same (Sp.ref10_Same_L0 (Sp.ref10_Same n) fuel)
theorem G86_ok (p : Par) (n : Nat) : (∀ {F : Ent3}, EntOk (cfg p) 17 F → EntOk (cfg p) 17 (P_ref10_Same (Sp.ref10_Same n) F)) := by
  induction n with
  | zero =>
    refine ?_
    · intro F hF a s γ K q h
      unfold P_ref10_Same at h
      split at h
      · cases h
      · exact hF _ _ _ _ _ h
  | succ n ih =>
    refine ?_
    · intro F hF a s γ K q h
      unfold P_ref10_Same at h
      split at h
      · exact body_ok (tab_loop (tab_nil _) (E_ref10_Same_L0 p (Sp.ref10_Same n) ih fuel (entL_none _ _ _))) rfl ((e_ref10_Same p _ _ _ _ _ _ _ _ _ _ _ _ _ _ _ _ _ _ _).trans h)
      · exact hF _ _ _ _ _ h
theorem E_ref10_Same (p : Par) (n : Nat) {F : Ent3} (hF : EntOk (cfg p) 17 F) : EntOk (cfg p) 17 (P_ref10_Same (Sp.ref10_Same n) F) := (G86_ok p n) hF
abbrev Ty_law14_TypesBinds : Type 1 := Int → Int → Int → Int → ByteArray → ByteArray → ByteArray → List (List Dat) → List (List Dat) → (γ : Type) → (Bool → Option γ) → Option γ
def P_law14_TypesBinds (X : Ty_law14_TypesBinds) (F : Ent3) : Ent3 := fun a s γ K => match a, s with
  | [agg [(int i64 v_e0, Own.none), (int i64 v_e1, Own.none), (int i64 v_e2, Own.none), (int i64 v_e3, Own.none), (str v_e4, Own.none), (str v_e5, Own.none), (str v_e6, Own.none), (sl v_e7, Own.none)], dat (sl v_cols)], [] => X v_e0 v_e1 v_e2 v_e3 v_e4 v_e5 v_e6 v_e7 v_cols γ (fun r0 => K ([(dat (Dat.bool r0), Own.none)], []))
  | a, s => F a s γ K
def T_law14_TypesBinds (x_law14_large : Ty_law14_large) (x_law14_lives : Ty_law14_lives) (x_ref10_Large : Ty_ref10_Large) (x_types_Bind : Ty_types_Bind) (x_ref14_Bind : Ty_ref14_Bind) (x_types_Type : Ty_types_Type) (x_ref14_Type : Ty_ref14_Type) (x_ref10_Same : Ty_ref10_Same) : CallK := (addK (addK (addK (addK (addK (addK (addK (addK noneK 8 (P_law14_large x_law14_large none3)) 9 (P_law14_lives x_law14_lives none3)) 12 (P_ref10_Large x_ref10_Large none3)) 13 (P_types_Bind x_types_Bind none3)) 14 (P_ref14_Bind x_ref14_Bind none3)) 15 (P_types_Type x_types_Type none3)) 16 (P_ref14_Type x_ref14_Type none3)) 17 (P_ref10_Same x_ref10_Same none3))
def L_law14_TypesBinds (x_law14_large : Ty_law14_large) (x_law14_lives : Ty_law14_lives) (x_ref10_Large : Ty_ref10_Large) (x_types_Bind : Ty_types_Bind) (x_ref14_Bind : Ty_ref14_Bind) (x_types_Type : Ty_types_Type) (x_ref14_Type : Ty_ref14_Type) (x_ref10_Same : Ty_ref10_Same) : LoopK := noneL
def Sp.B_law14_TypesBinds (x_law14_large : Ty_law14_large) (x_law14_lives : Ty_law14_lives) (x_ref10_Large : Ty_ref10_Large) (x_types_Bind : Ty_types_Bind) (x_ref14_Bind : Ty_ref14_Bind) (x_types_Type : Ty_types_Type) (x_ref14_Type : Ty_ref14_Type) (x_ref10_Same : Ty_ref10_Same) (v_e0 v_e1 v_e2 v_e3 : Int) (v_e4 v_e5 v_e6 : ByteArray) (v_e7 v_cols : List (List Dat)) (γ : Type) (K : Bool → Option γ) : Option γ := x_law14_large v_cols γ fun z11 => bif z11 then x_law14_lives γ fun z12 => K z12 else x_ref10_Large v_e0 v_e1 v_e2 v_e3 v_e4 v_e5 v_e6 v_e7 γ fun z13 => bif z13 then x_law14_lives γ fun z14 => K z14 else x_types_Bind v_e0 v_e1 v_e2 v_e3 v_e4 v_e5 v_e6 v_e7 v_cols γ fun z15 z16 z17 z18 z19 z20 z21 z22 z23 => x_ref14_Bind v_e0 v_e1 v_e2 v_e3 v_e4 v_e5 v_e6 v_e7 v_cols γ fun z24 z25 z26 z27 z28 z29 z30 z31 z32 => x_types_Type v_e0 v_e1 v_e2 v_e3 v_e4 v_e5 v_e6 v_e7 v_cols γ fun z33 z34 => x_ref14_Type v_e0 v_e1 v_e2 v_e3 v_e4 v_e5 v_e6 v_e7 v_cols γ fun z35 z36 => x_law14_lives γ fun z37 => bif z37 then bif decide (z23 = z32) then x_ref10_Same z15 z16 z17 z18 z19 z20 z21 z22 z24 z25 z26 z27 z28 z29 z30 z31 γ fun z38 => bif z38 then bif decide (z33 = z35) then K (decide (z34 = z36)) else K false else K false else K false else K false
theorem e_law14_TypesBinds (p : Par) (x_law14_large x_law14_lives x_ref10_Large x_types_Bind x_ref14_Bind x_types_Type x_ref14_Type x_ref10_Same v_e0 v_e1 v_e2 v_e3 v_e4 v_e5 v_e6 v_e7 v_cols) (γ : Type) (K : List Ent × Sig → Option γ) : evFK (cfg p) (T_law14_TypesBinds x_law14_large x_law14_lives x_ref10_Large x_types_Bind x_ref14_Bind x_types_Type x_ref14_Type x_ref10_Same) (L_law14_TypesBinds x_law14_large x_law14_lives x_ref10_Large x_types_Bind x_ref14_Bind x_types_Type x_ref14_Type x_ref10_Same) 4 [agg [(int i64 v_e0, Own.none), (int i64 v_e1, Own.none), (int i64 v_e2, Own.none), (int i64 v_e3, Own.none), (str v_e4, Own.none), (str v_e5, Own.none), (str v_e6, Own.none), (sl v_e7, Own.none)], dat (sl v_cols)] [] γ K = Sp.B_law14_TypesBinds x_law14_large x_law14_lives x_ref10_Large x_types_Bind x_ref14_Bind x_types_Type x_ref14_Type x_ref10_Same v_e0 v_e1 v_e2 v_e3 v_e4 v_e5 v_e6 v_e7 v_cols γ (fun r0 => K ([(dat (Dat.bool r0), Own.none)], [])) := by kernel_rfl
def Sp.law14_TypesBinds : Ty_law14_TypesBinds := Sp.B_law14_TypesBinds Sp.law14_large Sp.law14_lives Sp.ref10_Large Sp.types_Bind Sp.ref14_Bind Sp.types_Type Sp.ref14_Type (Sp.ref10_Same fuel)
theorem E_law14_TypesBinds (p : Par) {F : Ent3} (hF : EntOk (cfg p) 4 F) : EntOk (cfg p) 4 (P_law14_TypesBinds Sp.law14_TypesBinds F) := by
  intro a s γ K q h
  unfold P_law14_TypesBinds at h
  split at h
  · exact body_ok (tab_call (tab_call (tab_call (tab_call (tab_call (tab_call (tab_call (tab_call (tab_nil _) (E_law14_large p (ent_none _ _))) (E_law14_lives p (ent_none _ _))) (E_ref10_Large p (ent_none _ _))) (E_types_Bind p (ent_none _ _))) (E_ref14_Bind p (ent_none _ _))) (E_types_Type p (ent_none _ _))) (E_ref14_Type p (ent_none _ _))) (E_ref10_Same p fuel (ent_none _ _))) rfl ((e_law14_TypesBinds p _ _ _ _ _ _ _ _ _ _ _ _ _ _ _ _ _ _ _).trans h)
  · exact hF _ _ _ _ _ h
abbrev Ty_law14_TypesTwice : Type 1 := Int → Int → Int → Int → ByteArray → ByteArray → ByteArray → List (List Dat) → List (List Dat) → (γ : Type) → (Bool → Option γ) → Option γ
def P_law14_TypesTwice (X : Ty_law14_TypesTwice) (F : Ent3) : Ent3 := fun a s γ K => match a, s with
  | [agg [(int i64 v_e0, Own.none), (int i64 v_e1, Own.none), (int i64 v_e2, Own.none), (int i64 v_e3, Own.none), (str v_e4, Own.none), (str v_e5, Own.none), (str v_e6, Own.none), (sl v_e7, Own.none)], dat (sl v_cols)], [] => X v_e0 v_e1 v_e2 v_e3 v_e4 v_e5 v_e6 v_e7 v_cols γ (fun r0 => K ([(dat (Dat.bool r0), Own.none)], []))
  | a, s => F a s γ K
def T_law14_TypesTwice (x_law14_large : Ty_law14_large) (x_law14_lives : Ty_law14_lives) (x_ref10_Large : Ty_ref10_Large) (x_types_Bind : Ty_types_Bind) (x_types_Type : Ty_types_Type) (x_ref10_Same : Ty_ref10_Same) : CallK := (addK (addK (addK (addK (addK (addK noneK 8 (P_law14_large x_law14_large none3)) 9 (P_law14_lives x_law14_lives none3)) 12 (P_ref10_Large x_ref10_Large none3)) 13 (P_types_Bind x_types_Bind none3)) 15 (P_types_Type x_types_Type none3)) 17 (P_ref10_Same x_ref10_Same none3))
def L_law14_TypesTwice (x_law14_large : Ty_law14_large) (x_law14_lives : Ty_law14_lives) (x_ref10_Large : Ty_ref10_Large) (x_types_Bind : Ty_types_Bind) (x_types_Type : Ty_types_Type) (x_ref10_Same : Ty_ref10_Same) : LoopK := noneL
def Sp.B_law14_TypesTwice (x_law14_large : Ty_law14_large) (x_law14_lives : Ty_law14_lives) (x_ref10_Large : Ty_ref10_Large) (x_types_Bind : Ty_types_Bind) (x_types_Type : Ty_types_Type) (x_ref10_Same : Ty_ref10_Same) (v_e0 v_e1 v_e2 v_e3 : Int) (v_e4 v_e5 v_e6 : ByteArray) (v_e7 v_cols : List (List Dat)) (γ : Type) (K : Bool → Option γ) : Option γ := x_law14_large v_cols γ fun z11 => bif z11 then x_law14_lives γ fun z12 => K z12 else x_ref10_Large v_e0 v_e1 v_e2 v_e3 v_e4 v_e5 v_e6 v_e7 γ fun z13 => bif z13 then x_law14_lives γ fun z14 => K z14 else x_types_Bind v_e0 v_e1 v_e2 v_e3 v_e4 v_e5 v_e6 v_e7 v_cols γ fun z15 z16 z17 z18 z19 z20 z21 z22 z23 => x_law14_lives γ fun z24 => bif !z24 then x_law14_lives γ fun z25 => K z25 else bif !decide (z23 = 0) then x_law14_lives γ fun z26 => K z26 else x_types_Bind z15 z16 z17 z18 z19 z20 z21 z22 v_cols γ fun z27 z28 z29 z30 z31 z32 z33 z34 z35 => x_types_Type z15 z16 z17 z18 z19 z20 z21 z22 v_cols γ fun z36 z37 => bif decide (z35 = 0) then x_ref10_Same z15 z16 z17 z18 z19 z20 z21 z22 z27 z28 z29 z30 z31 z32 z33 z34 γ fun z38 => bif z38 then bif decide (z37 = 0) then K true else K (decide (z37 = 141)) else K false else K false
theorem e_law14_TypesTwice (p : Par) (x_law14_large x_law14_lives x_ref10_Large x_types_Bind x_types_Type x_ref10_Same v_e0 v_e1 v_e2 v_e3 v_e4 v_e5 v_e6 v_e7 v_cols) (γ : Type) (K : List Ent × Sig → Option γ) : evFK (cfg p) (T_law14_TypesTwice x_law14_large x_law14_lives x_ref10_Large x_types_Bind x_types_Type x_ref10_Same) (L_law14_TypesTwice x_law14_large x_law14_lives x_ref10_Large x_types_Bind x_types_Type x_ref10_Same) 5 [agg [(int i64 v_e0, Own.none), (int i64 v_e1, Own.none), (int i64 v_e2, Own.none), (int i64 v_e3, Own.none), (str v_e4, Own.none), (str v_e5, Own.none), (str v_e6, Own.none), (sl v_e7, Own.none)], dat (sl v_cols)] [] γ K = Sp.B_law14_TypesTwice x_law14_large x_law14_lives x_ref10_Large x_types_Bind x_types_Type x_ref10_Same v_e0 v_e1 v_e2 v_e3 v_e4 v_e5 v_e6 v_e7 v_cols γ (fun r0 => K ([(dat (Dat.bool r0), Own.none)], [])) := by kernel_rfl
def Sp.law14_TypesTwice : Ty_law14_TypesTwice := Sp.B_law14_TypesTwice Sp.law14_large Sp.law14_lives Sp.ref10_Large Sp.types_Bind Sp.types_Type (Sp.ref10_Same fuel)
theorem E_law14_TypesTwice (p : Par) {F : Ent3} (hF : EntOk (cfg p) 5 F) : EntOk (cfg p) 5 (P_law14_TypesTwice Sp.law14_TypesTwice F) := by
  intro a s γ K q h
  unfold P_law14_TypesTwice at h
  split at h
  · exact body_ok (tab_call (tab_call (tab_call (tab_call (tab_call (tab_call (tab_nil _) (E_law14_large p (ent_none _ _))) (E_law14_lives p (ent_none _ _))) (E_ref10_Large p (ent_none _ _))) (E_types_Bind p (ent_none _ _))) (E_types_Type p (ent_none _ _))) (E_ref10_Same p fuel (ent_none _ _))) rfl ((e_law14_TypesTwice p _ _ _ _ _ _ _ _ _ _ _ _ _ _ _ _ _).trans h)
  · exact hF _ _ _ _ _ h
abbrev Ty_ref10_Kinds : Type 1 := Int → Int → Int → Int → ByteArray → ByteArray → ByteArray → List (List Dat) → Int → (γ : Type) → (List (List Dat) → Option γ) → Option γ
def P_ref10_Kinds (X : Ty_ref10_Kinds) (F : Ent3) : Ent3 := fun a s γ K => match a, s with
  | [agg [(int i64 v_e0, Own.none), (int i64 v_e1, Own.none), (int i64 v_e2, Own.none), (int i64 v_e3, Own.none), (str v_e4, Own.none), (str v_e5, Own.none), (str v_e6, Own.none), (sl v_e7, Own.none)], dat (int i64 v_kind)], [] => X v_e0 v_e1 v_e2 v_e3 v_e4 v_e5 v_e6 v_e7 v_kind γ (fun r0 => K ([(dat (sl r0), Own.id 0 8)], []))
  | a, s => F a s γ K
abbrev Ty_ref10_Kinds_L0 : Type 1 := Int → List (List Dat) → Int → Int → Int → Int → Int → ByteArray → ByteArray → ByteArray → List (List Dat) → (γ : Type) → (Ex → List (List Dat) → Int → Int → Int → Int → Int → ByteArray → ByteArray → ByteArray → List (List Dat) → Option γ) → Option γ
def P_ref10_Kinds_L0 (X : Ty_ref10_Kinds_L0) (F : Loop3) : Loop3 := fun a s γ K => match a, s with
  | [dat (int i64 v_kind), AVal.loc 2 0], ([dat (sl v_out), dat (int i64 v_i), agg [(int i64 w0, Own.none), (int i64 w1, Own.none), (int i64 w2, Own.none), (int i64 w3, Own.none), (str w4, Own.none), (str w5, Own.none), (str w6, Own.none), (sl w7, Own.none)]], []) => X v_kind v_out v_i w0 w1 w2 w3 w4 w5 w6 w7 γ (fun e x0 x1 x2 x3 x4 x5 x6 x7 x8 x9 => K (e, ([dat (sl x0), dat (int i64 x1), agg [(int i64 x2, Own.none), (int i64 x3, Own.none), (int i64 x4, Own.none), (int i64 x5, Own.none), (str x6, Own.none), (str x7, Own.none), (str x8, Own.none), (sl x9, Own.none)]], [])))
  | a, s => F a s γ K
def T_ref10_Kinds_L0 (x_ref10_Kinds : Ty_ref10_Kinds) : CallK := (addK noneK 39 (P_ref10_Kinds x_ref10_Kinds none3))
def L_ref10_Kinds_L0 (x_ref10_Kinds : Ty_ref10_Kinds) : LoopK := noneL
def Sp.B_ref10_Kinds_L0 (x_ref10_Kinds_L0 : Ty_ref10_Kinds_L0) (x_ref10_Kinds : Ty_ref10_Kinds) (v_kind : Int) (v_out : List (List Dat)) (v_i w0 w1 w2 w3 : Int) (w4 w5 w6 : ByteArray) (w7 : List (List Dat)) (γ : Type) (K : Ex → List (List Dat) → Int → Int → Int → Int → Int → ByteArray → ByteArray → ByteArray → List (List Dat) → Option γ) : Option γ := bif sized v_out 8 then bif decide (v_i < Int.ofNat (List.length w7)) then elemAt w7 v_i fun z13 => bif List.length z13 == 8 then cellAt z13 0 fun z14 => Aev.asInt i64 z14 fun z15 => cellAt z13 1 fun z16 => Aev.asInt i64 z16 fun z17 => cellAt z13 2 fun z18 => Aev.asInt i64 z18 fun z19 => cellAt z13 3 fun z20 => Aev.asInt i64 z20 fun z21 => cellAt z13 4 fun z22 => asStr z22 fun z23 => cellAt z13 5 fun z24 => asStr z24 fun z25 => cellAt z13 6 fun z26 => asStr z26 fun z27 => cellAt z13 7 fun z28 => asSl z28 fun z29 => x_ref10_Kinds z15 z17 z19 z21 z23 z25 z27 z29 v_kind γ fun z30 => bif sized v_out 8 && sized z30 8 && true && decide ((List.length v_out + List.length z30) * 105 ≤ 70368744177664) && true then x_ref10_Kinds_L0 v_kind (v_out ++ z30) (IntKind.wrap i64 (v_i + 1)) w0 w1 w2 w3 w4 w5 w6 w7 γ K else none else none else K (Ex.exit 0) v_out v_i w0 w1 w2 w3 w4 w5 w6 w7 else none
theorem e_ref10_Kinds_L0 (p : Par) (x_ref10_Kinds_L0 : Ty_ref10_Kinds_L0) (x_ref10_Kinds v_kind v_out v_i w0 w1 w2 w3 w4 w5 w6 w7) (γ : Type) (K : Ex × Vars → Option γ) : roundK (cfg p) (T_ref10_Kinds_L0 x_ref10_Kinds) (L_ref10_Kinds_L0 x_ref10_Kinds) 39 0 [dat (int i64 v_kind), AVal.loc 2 0] ([dat (sl v_out), dat (int i64 v_i), agg [(int i64 w0, Own.none), (int i64 w1, Own.none), (int i64 w2, Own.none), (int i64 w3, Own.none), (str w4, Own.none), (str w5, Own.none), (str w6, Own.none), (sl w7, Own.none)]], []) γ (contL (fun v => P_ref10_Kinds_L0 x_ref10_Kinds_L0 noneL3 [dat (int i64 v_kind), AVal.loc 2 0] v γ K) K) = Sp.B_ref10_Kinds_L0 x_ref10_Kinds_L0 x_ref10_Kinds v_kind v_out v_i w0 w1 w2 w3 w4 w5 w6 w7 γ (fun e x0 x1 x2 x3 x4 x5 x6 x7 x8 x9 => K (e, ([dat (sl x0), dat (int i64 x1), agg [(int i64 x2, Own.none), (int i64 x3, Own.none), (int i64 x4, Own.none), (int i64 x5, Own.none), (str x6, Own.none), (str x7, Own.none), (str x8, Own.none), (sl x9, Own.none)]], []))) := by kernel_rfl
def T_ref10_Kinds (x_ref10_Kinds_L0 : Ty_ref10_Kinds_L0) : CallK := noneK
def L_ref10_Kinds (x_ref10_Kinds_L0 : Ty_ref10_Kinds_L0) : LoopK := (addL noneL 39 0 (P_ref10_Kinds_L0 x_ref10_Kinds_L0 noneL3))
def Sp.B_ref10_Kinds (x_ref10_Kinds_L0 : Ty_ref10_Kinds_L0) (v_e0 v_e1 v_e2 v_e3 : Int) (v_e4 v_e5 v_e6 : ByteArray) (v_e7 : List (List Dat)) (v_kind : Int) (γ : Type) (K : List (List Dat) → Option γ) : Option γ := bif decide (v_e0 = v_kind) then x_ref10_Kinds_L0 v_kind [[int i64 v_e0, int i64 v_e1, int i64 v_e2, int i64 v_e3, str v_e4, str v_e5, str v_e6, sl v_e7]] 0 v_e0 v_e1 v_e2 v_e3 v_e4 v_e5 v_e6 v_e7 γ fun z11 z12 z13 z14 z15 z16 z17 z18 z19 z20 z21 => bif sized z12 8 then bif Ex.isExit z11 0 then K z12 else bif Ex.isRet z11 then none else none else none else x_ref10_Kinds_L0 v_kind [] 0 v_e0 v_e1 v_e2 v_e3 v_e4 v_e5 v_e6 v_e7 γ fun z22 z23 z24 z25 z26 z27 z28 z29 z30 z31 z32 => bif sized z23 8 then bif Ex.isExit z22 0 then K z23 else bif Ex.isRet z22 then none else none else none
theorem e_ref10_Kinds (p : Par) (x_ref10_Kinds_L0 v_e0 v_e1 v_e2 v_e3 v_e4 v_e5 v_e6 v_e7 v_kind) (γ : Type) (K : List Ent × Sig → Option γ) : evFK (cfg p) (T_ref10_Kinds x_ref10_Kinds_L0) (L_ref10_Kinds x_ref10_Kinds_L0) 39 [agg [(int i64 v_e0, Own.none), (int i64 v_e1, Own.none), (int i64 v_e2, Own.none), (int i64 v_e3, Own.none), (str v_e4, Own.none), (str v_e5, Own.none), (str v_e6, Own.none), (sl v_e7, Own.none)], dat (int i64 v_kind)] [] γ K = Sp.B_ref10_Kinds x_ref10_Kinds_L0 v_e0 v_e1 v_e2 v_e3 v_e4 v_e5 v_e6 v_e7 v_kind γ (fun r0 => K ([(dat (sl r0), Own.id 0 8)], [])) := by kernel_rfl
def Sp.ref10_Kinds_L0 (R_ref10_Kinds : Ty_ref10_Kinds) : Nat → Ty_ref10_Kinds_L0
  | 0 => fun _ _ _ _ _ _ _ _ _ _ _ _ _ => none
  | n + 1 => Sp.B_ref10_Kinds_L0 (Sp.ref10_Kinds_L0 R_ref10_Kinds n) R_ref10_Kinds
theorem E0_ref10_Kinds_L0 (p : Par) (R_ref10_Kinds : Ty_ref10_Kinds) (h_ref10_Kinds : ∀ {F : Ent3}, EntOk (cfg p) 39 F → EntOk (cfg p) 39 (P_ref10_Kinds R_ref10_Kinds F)) : ∀ n, EntOkL (cfg p) 39 0 (P_ref10_Kinds_L0 (Sp.ref10_Kinds_L0 R_ref10_Kinds n) noneL3) := entL_rounds (tab_call (tab_nil _) (h_ref10_Kinds (ent_none _ _))) (by kernel_rfl) (fun c v γ K => by unfold P_ref10_Kinds_L0; split <;> rfl) fun n c v γ K q h => by
  unfold P_ref10_Kinds_L0 at h
  split at h
  · exact (e_ref10_Kinds_L0 p _ _ _ _ _ _ _ _ _ _ _ _ _ _ _).trans h
  · cases h
theorem E_ref10_Kinds_L0 (p : Par) (R_ref10_Kinds : Ty_ref10_Kinds) (h_ref10_Kinds : ∀ {F : Ent3}, EntOk (cfg p) 39 F → EntOk (cfg p) 39 (P_ref10_Kinds R_ref10_Kinds F)) (n : Nat) {F : Loop3} (hF : EntOkL (cfg p) 39 0 F) : EntOkL (cfg p) 39 0 (P_ref10_Kinds_L0 (Sp.ref10_Kinds_L0 R_ref10_Kinds n) F) := by
  intro c v γ K q h
  unfold P_ref10_Kinds_L0 at h
  split at h
  · exact E0_ref10_Kinds_L0 p R_ref10_Kinds h_ref10_Kinds n _ _ _ _ _ h
  · exact hF _ _ _ _ _ h
def Sp.ref10_Kinds : Nat → Ty_ref10_Kinds
  | 0 => fun _ _ _ _ _ _ _ _ _ _ _ => none
  | n + 1 => Sp.B_ref10_Kinds (Sp.ref10_Kinds_L0 (Sp.ref10_Kinds n) fuel)
theorem G91_ok (p : Par) (n : Nat) : (∀ {F : Ent3}, EntOk (cfg p) 39 F → EntOk (cfg p) 39 (P_ref10_Kinds (Sp.ref10_Kinds n) F)) := by
  induction n with
  | zero =>
    refine ?_
    · intro F hF a s γ K q h
      unfold P_ref10_Kinds at h
      split at h
      · cases h
      · exact hF _ _ _ _ _ h
  | succ n ih =>
    refine ?_
    · intro F hF a s γ K q h
      unfold P_ref10_Kinds at h
      split at h
      · exact body_ok (tab_loop (tab_nil _) (E_ref10_Kinds_L0 p (Sp.ref10_Kinds n) ih fuel (entL_none _ _ _))) rfl ((e_ref10_Kinds p _ _ _ _ _ _ _ _ _ _ _ _).trans h)
      · exact hF _ _ _ _ _ h
theorem E_ref10_Kinds (p : Par) (n : Nat) {F : Ent3} (hF : EntOk (cfg p) 39 F) : EntOk (cfg p) 39 (P_ref10_Kinds (Sp.ref10_Kinds n) F) := (G91_ok p n) hF
abbrev Ty_ref14_Move_L0 : Type 1 := List (List Dat) → List (List Dat) → Int → Int → Int → Int → Int → Int → ByteArray → ByteArray → ByteArray → List (List Dat) → Int → Int → Int → Int → ByteArray → ByteArray → ByteArray → List (List Dat) → (γ : Type) → (Ex → Int → Int → Int → Int → Int → Int → ByteArray → ByteArray → ByteArray → List (List Dat) → Int → Int → Int → Int → ByteArray → ByteArray → ByteArray → List (List Dat) → Option γ) → Option γ
def P_ref14_Move_L0 (X : Ty_ref14_Move_L0) (F : Loop3) : Loop3 := fun a s γ K => match a, s with
  | [dat (sl v_places), AVal.loc 2 0, AVal.loc 4 0, dat (sl v_l)], ([dat (int i64 v_), dat (int i64 v_i), agg [(int i64 w0, Own.none), (int i64 w1, Own.none), (int i64 w2, Own.none), (int i64 w3, Own.none), (str w4, Own.none), (str w5, Own.none), (str w6, Own.none), (sl w7, Own.none)], agg [(int i64 w0_1, Own.none), (int i64 w1_1, Own.none), (int i64 w2_1, Own.none), (int i64 w3_1, Own.none), (str w4_1, Own.none), (str w5_1, Own.none), (str w6_1, Own.none), (sl w7_1, Own.none)]], []) => X v_places v_l v_ v_i w0 w1 w2 w3 w4 w5 w6 w7 w0_1 w1_1 w2_1 w3_1 w4_1 w5_1 w6_1 w7_1 γ (fun e x0 x1 x2 x3 x4 x5 x6 x7 x8 x9 x10 x11 x12 x13 x14 x15 x16 x17 => K (e, ([dat (int i64 x0), dat (int i64 x1), agg [(int i64 x2, Own.none), (int i64 x3, Own.none), (int i64 x4, Own.none), (int i64 x5, Own.none), (str x6, Own.none), (str x7, Own.none), (str x8, Own.none), (sl x9, Own.none)], agg [(int i64 x10, Own.none), (int i64 x11, Own.none), (int i64 x12, Own.none), (int i64 x13, Own.none), (str x14, Own.none), (str x15, Own.none), (str x16, Own.none), (sl x17, Own.none)]], [])))
  | a, s => F a s γ K
def T_ref14_Move_L0 : CallK := noneK
def L_ref14_Move_L0 : LoopK := noneL
def Sp.B_ref14_Move_L0 (x_ref14_Move_L0 : Ty_ref14_Move_L0)  (v_places v_l : List (List Dat)) (v_ v_i w0 w1 w2 w3 : Int) (w4 w5 w6 : ByteArray) (w7 : List (List Dat)) (w0_1 w1_1 w2_1 w3_1 : Int) (w4_1 w5_1 w6_1 : ByteArray) (w7_1 : List (List Dat)) (γ : Type) (K : Ex → Int → Int → Int → Int → Int → Int → ByteArray → ByteArray → ByteArray → List (List Dat) → Int → Int → Int → Int → ByteArray → ByteArray → ByteArray → List (List Dat) → Option γ) : Option γ := bif decide (v_i < Int.ofNat (List.length v_l)) then elemAt v_l v_i fun z22 => bif List.length z22 == 8 then cellAt (List.drop 1 z22) 0 fun z23 => Aev.asInt i64 z23 fun z24 => bif decide (Int.ofNat (List.length v_places) ≤ z24) then K Ex.ret 140 v_i w0 w1 w2 w3 w4 w5 w6 w7 0 0 0 0 (bs []) (bs []) (bs []) [] else elemAt v_l v_i fun z25 => bif List.length z25 == 8 then cellAt (List.drop 1 z25) 0 fun z26 => Aev.asInt i64 z26 fun z27 => elemAt v_places z27 fun z28 => bif List.length z28 == 1 then cellAt z28 0 fun z29 => Aev.asInt i64 z29 fun z30 => bif decide (z30 < 0) then K Ex.ret 140 v_i w0 w1 w2 w3 w4 w5 w6 w7 0 0 0 0 (bs []) (bs []) (bs []) [] else elemAt v_l v_i fun z31 => bif List.length z31 == 8 then cellAt (List.drop 1 z31) 0 fun z32 => Aev.asInt i64 z32 fun z33 => elemAt v_places z33 fun z34 => bif List.length z34 == 1 then cellAt z34 0 fun z35 => Aev.asInt i64 z35 fun z36 => bif decide (32 ≤ z36) then K Ex.ret 140 v_i w0 w1 w2 w3 w4 w5 w6 w7 0 0 0 0 (bs []) (bs []) (bs []) [] else x_ref14_Move_L0 v_places v_l v_ (IntKind.wrap i64 (v_i + 1)) w0 w1 w2 w3 w4 w5 w6 w7 w0_1 w1_1 w2_1 w3_1 w4_1 w5_1 w6_1 w7_1 γ K else none else none else none else none else none else K (Ex.exit 0) v_ v_i w0 w1 w2 w3 w4 w5 w6 w7 w0_1 w1_1 w2_1 w3_1 w4_1 w5_1 w6_1 w7_1
theorem e_ref14_Move_L0 (p : Par) (x_ref14_Move_L0 : Ty_ref14_Move_L0) (v_places v_l v_ v_i w0 w1 w2 w3 w4 w5 w6 w7 w0_1 w1_1 w2_1 w3_1 w4_1 w5_1 w6_1 w7_1) (γ : Type) (K : Ex × Vars → Option γ) : roundK (cfg p) (T_ref14_Move_L0) (L_ref14_Move_L0) 19 0 [dat (sl v_places), AVal.loc 2 0, AVal.loc 4 0, dat (sl v_l)] ([dat (int i64 v_), dat (int i64 v_i), agg [(int i64 w0, Own.none), (int i64 w1, Own.none), (int i64 w2, Own.none), (int i64 w3, Own.none), (str w4, Own.none), (str w5, Own.none), (str w6, Own.none), (sl w7, Own.none)], agg [(int i64 w0_1, Own.none), (int i64 w1_1, Own.none), (int i64 w2_1, Own.none), (int i64 w3_1, Own.none), (str w4_1, Own.none), (str w5_1, Own.none), (str w6_1, Own.none), (sl w7_1, Own.none)]], []) γ (contL (fun v => P_ref14_Move_L0 x_ref14_Move_L0 noneL3 [dat (sl v_places), AVal.loc 2 0, AVal.loc 4 0, dat (sl v_l)] v γ K) K) = Sp.B_ref14_Move_L0 x_ref14_Move_L0 v_places v_l v_ v_i w0 w1 w2 w3 w4 w5 w6 w7 w0_1 w1_1 w2_1 w3_1 w4_1 w5_1 w6_1 w7_1 γ (fun e x0 x1 x2 x3 x4 x5 x6 x7 x8 x9 x10 x11 x12 x13 x14 x15 x16 x17 => K (e, ([dat (int i64 x0), dat (int i64 x1), agg [(int i64 x2, Own.none), (int i64 x3, Own.none), (int i64 x4, Own.none), (int i64 x5, Own.none), (str x6, Own.none), (str x7, Own.none), (str x8, Own.none), (sl x9, Own.none)], agg [(int i64 x10, Own.none), (int i64 x11, Own.none), (int i64 x12, Own.none), (int i64 x13, Own.none), (str x14, Own.none), (str x15, Own.none), (str x16, Own.none), (sl x17, Own.none)]], []))) := by kernel_rfl
def Sp.ref14_Move_L0 : Nat → Ty_ref14_Move_L0
  | 0 => fun _ _ _ _ _ _ _ _ _ _ _ _ _ _ _ _ _ _ _ _ _ _ => none
  | n + 1 => Sp.B_ref14_Move_L0 (Sp.ref14_Move_L0 n) 
theorem E0_ref14_Move_L0 (p : Par)   : ∀ n, EntOkL (cfg p) 19 0 (P_ref14_Move_L0 (Sp.ref14_Move_L0 n) noneL3) := entL_rounds (tab_nil _) (by kernel_rfl) (fun c v γ K => by unfold P_ref14_Move_L0; split <;> rfl) fun n c v γ K q h => by
  unfold P_ref14_Move_L0 at h
  split at h
  · exact (e_ref14_Move_L0 p _ _ _ _ _ _ _ _ _ _ _ _ _ _ _ _ _ _ _ _ _ _ _).trans h
  · cases h
theorem E_ref14_Move_L0 (p : Par)   (n : Nat) {F : Loop3} (hF : EntOkL (cfg p) 19 0 F) : EntOkL (cfg p) 19 0 (P_ref14_Move_L0 (Sp.ref14_Move_L0 n) F) := by
  intro c v γ K q h
  unfold P_ref14_Move_L0 at h
  split at h
  · exact E0_ref14_Move_L0 p n _ _ _ _ _ h
  · exact hF _ _ _ _ _ h
abbrev Ty_ref14_move : Type 1 := Int → Int → Int → Int → ByteArray → ByteArray → ByteArray → List (List Dat) → List (List Dat) → (γ : Type) → (Int → Int → Int → Int → ByteArray → ByteArray → ByteArray → List (List Dat) → Option γ) → Option γ
def P_ref14_move (X : Ty_ref14_move) (F : Ent3) : Ent3 := fun a s γ K => match a, s with
  | [agg [(int i64 v_e0, Own.none), (int i64 v_e1, Own.none), (int i64 v_e2, Own.none), (int i64 v_e3, Own.none), (str v_e4, Own.none), (str v_e5, Own.none), (str v_e6, Own.none), (sl v_e7, Own.none)], dat (sl v_places)], [] => X v_e0 v_e1 v_e2 v_e3 v_e4 v_e5 v_e6 v_e7 v_places γ (fun r0 r1 r2 r3 r4 r5 r6 r7 => K ([(agg [(int i64 r0, Own.none), (int i64 r1, Own.none), (int i64 r2, Own.none), (int i64 r3, Own.none), (str r4, Own.none), (str r5, Own.none), (str r6, Own.none), (sl r7, Own.none)], Own.none)], []))
  | a, s => F a s γ K
abbrev Ty_ref14_move_L0 : Type 1 := List (List Dat) → List (List Dat) → Int → Int → Int → Int → Int → ByteArray → ByteArray → ByteArray → List (List Dat) → Int → Int → Int → Int → ByteArray → ByteArray → ByteArray → List (List Dat) → (γ : Type) → (Ex → List (List Dat) → Int → Int → Int → Int → Int → ByteArray → ByteArray → ByteArray → List (List Dat) → Int → Int → Int → Int → ByteArray → ByteArray → ByteArray → List (List Dat) → Option γ) → Option γ
def P_ref14_move_L0 (X : Ty_ref14_move_L0) (F : Loop3) : Loop3 := fun a s γ K => match a, s with
  | [dat (sl v_places), AVal.loc 2 0, AVal.loc 4 0], ([dat (sl v_l), dat (int i64 v_i), agg [(int i64 w0, Own.none), (int i64 w1, Own.none), (int i64 w2, Own.none), (int i64 w3, Own.none), (str w4, Own.none), (str w5, Own.none), (str w6, Own.none), (sl w7, Own.none)], agg [(int i64 w0_1, Own.none), (int i64 w1_1, Own.none), (int i64 w2_1, Own.none), (int i64 w3_1, Own.none), (str w4_1, Own.none), (str w5_1, Own.none), (str w6_1, Own.none), (sl w7_1, Own.none)]], []) => X v_places v_l v_i w0 w1 w2 w3 w4 w5 w6 w7 w0_1 w1_1 w2_1 w3_1 w4_1 w5_1 w6_1 w7_1 γ (fun e x0 x1 x2 x3 x4 x5 x6 x7 x8 x9 x10 x11 x12 x13 x14 x15 x16 x17 => K (e, ([dat (sl x0), dat (int i64 x1), agg [(int i64 x2, Own.none), (int i64 x3, Own.none), (int i64 x4, Own.none), (int i64 x5, Own.none), (str x6, Own.none), (str x7, Own.none), (str x8, Own.none), (sl x9, Own.none)], agg [(int i64 x10, Own.none), (int i64 x11, Own.none), (int i64 x12, Own.none), (int i64 x13, Own.none), (str x14, Own.none), (str x15, Own.none), (str x16, Own.none), (sl x17, Own.none)]], [])))
  | a, s => F a s γ K
def T_ref14_move_L0 (x_ref14_move : Ty_ref14_move) : CallK := (addK noneK 40 (P_ref14_move x_ref14_move none3))
def L_ref14_move_L0 (x_ref14_move : Ty_ref14_move) : LoopK := noneL
def Sp.B_ref14_move_L0 (x_ref14_move_L0 : Ty_ref14_move_L0) (x_ref14_move : Ty_ref14_move) (v_places v_l : List (List Dat)) (v_i w0 w1 w2 w3 : Int) (w4 w5 w6 : ByteArray) (w7 : List (List Dat)) (w0_1 w1_1 w2_1 w3_1 : Int) (w4_1 w5_1 w6_1 : ByteArray) (w7_1 : List (List Dat)) (γ : Type) (K : Ex → List (List Dat) → Int → Int → Int → Int → Int → ByteArray → ByteArray → ByteArray → List (List Dat) → Int → Int → Int → Int → ByteArray → ByteArray → ByteArray → List (List Dat) → Option γ) : Option γ := bif sized v_l 8 then bif decide (v_i < Int.ofNat (List.length w7)) then elemAt w7 v_i fun z21 => bif List.length z21 == 8 then cellAt z21 0 fun z22 => Aev.asInt i64 z22 fun z23 => cellAt z21 1 fun z24 => Aev.asInt i64 z24 fun z25 => cellAt z21 2 fun z26 => Aev.asInt i64 z26 fun z27 => cellAt z21 3 fun z28 => Aev.asInt i64 z28 fun z29 => cellAt z21 4 fun z30 => asStr z30 fun z31 => cellAt z21 5 fun z32 => asStr z32 fun z33 => cellAt z21 6 fun z34 => asStr z34 fun z35 => cellAt z21 7 fun z36 => asSl z36 fun z37 => x_ref14_move z23 z25 z27 z29 z31 z33 z35 z37 v_places γ fun z38 z39 z40 z41 z42 z43 z44 z45 => bif sized v_l 8 && true && true && decide ((List.length v_l + 1) * 105 ≤ 70368744177664) && true then x_ref14_move_L0 v_places (v_l ++ [[int i64 z38, int i64 z39, int i64 z40, int i64 z41, str z42, str z43, str z44, sl z45]]) (IntKind.wrap i64 (v_i + 1)) w0 w1 w2 w3 w4 w5 w6 w7 w0_1 w1_1 w2_1 w3_1 w4_1 w5_1 w6_1 w7_1 γ K else none else none else K (Ex.exit 0) v_l v_i w0 w1 w2 w3 w4 w5 w6 w7 w0_1 w1_1 w2_1 w3_1 w4_1 w5_1 w6_1 w7_1 else none
theorem e_ref14_move_L0 (p : Par) (x_ref14_move_L0 : Ty_ref14_move_L0) (x_ref14_move v_places v_l v_i w0 w1 w2 w3 w4 w5 w6 w7 w0_1 w1_1 w2_1 w3_1 w4_1 w5_1 w6_1 w7_1) (γ : Type) (K : Ex × Vars → Option γ) : roundK (cfg p) (T_ref14_move_L0 x_ref14_move) (L_ref14_move_L0 x_ref14_move) 40 0 [dat (sl v_places), AVal.loc 2 0, AVal.loc 4 0] ([dat (sl v_l), dat (int i64 v_i), agg [(int i64 w0, Own.none), (int i64 w1, Own.none), (int i64 w2, Own.none), (int i64 w3, Own.none), (str w4, Own.none), (str w5, Own.none), (str w6, Own.none), (sl w7, Own.none)], agg [(int i64 w0_1, Own.none), (int i64 w1_1, Own.none), (int i64 w2_1, Own.none), (int i64 w3_1, Own.none), (str w4_1, Own.none), (str w5_1, Own.none), (str w6_1, Own.none), (sl w7_1, Own.none)]], []) γ (contL (fun v => P_ref14_move_L0 x_ref14_move_L0 noneL3 [dat (sl v_places), AVal.loc 2 0, AVal.loc 4 0] v γ K) K) = Sp.B_ref14_move_L0 x_ref14_move_L0 x_ref14_move v_places v_l v_i w0 w1 w2 w3 w4 w5 w6 w7 w0_1 w1_1 w2_1 w3_1 w4_1 w5_1 w6_1 w7_1 γ (fun e x0 x1 x2 x3 x4 x5 x6 x7 x8 x9 x10 x11 x12 x13 x14 x15 x16 x17 => K (e, ([dat (sl x0), dat (int i64 x1), agg [(int i64 x2, Own.none), (int i64 x3, Own.none), (int i64 x4, Own.none), (int i64 x5, Own.none), (str x6, Own.none), (str x7, Own.none), (str x8, Own.none), (sl x9, Own.none)], agg [(int i64 x10, Own.none), (int i64 x11, Own.none), (int i64 x12, Own.none), (int i64 x13, Own.none), (str x14, Own.none), (str x15, Own.none), (str x16, Own.none), (sl x17, Own.none)]], []))) := by kernel_rfl
def T_ref14_move (x_ref14_move_L0 : Ty_ref14_move_L0) : CallK := noneK
def L_ref14_move (x_ref14_move_L0 : Ty_ref14_move_L0) : LoopK := (addL noneL 40 0 (P_ref14_move_L0 x_ref14_move_L0 noneL3))
def Sp.B_ref14_move (x_ref14_move_L0 : Ty_ref14_move_L0) (v_e0 v_e1 v_e2 v_e3 : Int) (v_e4 v_e5 v_e6 : ByteArray) (v_e7 v_places : List (List Dat)) (γ : Type) (K : Int → Int → Int → Int → ByteArray → ByteArray → ByteArray → List (List Dat) → Option γ) : Option γ := bif decide (v_e0 = 2) then elemAt v_places v_e1 fun z11 => bif List.length z11 == 1 then cellAt z11 0 fun z12 => Aev.asInt i64 z12 fun z13 => x_ref14_move_L0 v_places [] 0 v_e0 z13 v_e2 v_e3 v_e4 v_e5 v_e6 v_e7 0 0 0 0 (bs []) (bs []) (bs []) [] γ fun z14 z15 z16 z17 z18 z19 z20 z21 z22 z23 z24 z25 z26 z27 z28 z29 z30 z31 z32 => bif sized z15 8 then bif Ex.isExit z14 0 then K z17 z18 z19 z20 z21 z22 z23 z15 else bif Ex.isRet z14 then K z25 z26 z27 z28 z29 z30 z31 z32 else none else none else none else x_ref14_move_L0 v_places [] 0 v_e0 v_e1 v_e2 v_e3 v_e4 v_e5 v_e6 v_e7 0 0 0 0 (bs []) (bs []) (bs []) [] γ fun z33 z34 z35 z36 z37 z38 z39 z40 z41 z42 z43 z44 z45 z46 z47 z48 z49 z50 z51 => bif sized z34 8 then bif Ex.isExit z33 0 then K z36 z37 z38 z39 z40 z41 z42 z34 else bif Ex.isRet z33 then K z44 z45 z46 z47 z48 z49 z50 z51 else none else none
theorem e_ref14_move (p : Par) (x_ref14_move_L0 v_e0 v_e1 v_e2 v_e3 v_e4 v_e5 v_e6 v_e7 v_places) (γ : Type) (K : List Ent × Sig → Option γ) : evFK (cfg p) (T_ref14_move x_ref14_move_L0) (L_ref14_move x_ref14_move_L0) 40 [agg [(int i64 v_e0, Own.none), (int i64 v_e1, Own.none), (int i64 v_e2, Own.none), (int i64 v_e3, Own.none), (str v_e4, Own.none), (str v_e5, Own.none), (str v_e6, Own.none), (sl v_e7, Own.none)], dat (sl v_places)] [] γ K = Sp.B_ref14_move x_ref14_move_L0 v_e0 v_e1 v_e2 v_e3 v_e4 v_e5 v_e6 v_e7 v_places γ (fun r0 r1 r2 r3 r4 r5 r6 r7 => K ([(agg [(int i64 r0, Own.none), (int i64 r1, Own.none), (int i64 r2, Own.none), (int i64 r3, Own.none), (str r4, Own.none), (str r5, Own.none), (str r6, Own.none), (sl r7, Own.none)], Own.none)], [])) := by kernel_rfl
def Sp.ref14_move_L0 (R_ref14_move : Ty_ref14_move) : Nat → Ty_ref14_move_L0
  | 0 => fun _ _ _ _ _ _ _ _ _ _ _ _ _ _ _ _ _ _ _ _ _ => none
  | n + 1 => Sp.B_ref14_move_L0 (Sp.ref14_move_L0 R_ref14_move n) R_ref14_move
theorem E0_ref14_move_L0 (p : Par) (R_ref14_move : Ty_ref14_move) (h_ref14_move : ∀ {F : Ent3}, EntOk (cfg p) 40 F → EntOk (cfg p) 40 (P_ref14_move R_ref14_move F)) : ∀ n, EntOkL (cfg p) 40 0 (P_ref14_move_L0 (Sp.ref14_move_L0 R_ref14_move n) noneL3) := entL_rounds (tab_call (tab_nil _) (h_ref14_move (ent_none _ _))) (by kernel_rfl) (fun c v γ K => by unfold P_ref14_move_L0; split <;> rfl) fun n c v γ K q h => by
  unfold P_ref14_move_L0 at h
  split at h
  · exact (e_ref14_move_L0 p _ _ _ _ _ _ _ _ _ _ _ _ _ _ _ _ _ _ _ _ _ _ _).trans h
  · cases h
theorem E_ref14_move_L0 (p : Par) (R_ref14_move : Ty_ref14_move) (h_ref14_move : ∀ {F : Ent3}, EntOk (cfg p) 40 F → EntOk (cfg p) 40 (P_ref14_move R_ref14_move F)) (n : Nat) {F : Loop3} (hF : EntOkL (cfg p) 40 0 F) : EntOkL (cfg p) 40 0 (P_ref14_move_L0 (Sp.ref14_move_L0 R_ref14_move n) F) := by
  intro c v γ K q h
  unfold P_ref14_move_L0 at h
  split at h
  · exact E0_ref14_move_L0 p R_ref14_move h_ref14_move n _ _ _ _ _ h
  · exact hF _ _ _ _ _ h
def Sp.ref14_move : Nat → Ty_ref14_move
  | 0 => fun _ _ _ _ _ _ _ _ _ _ _ => none
  | n + 1 => Sp.B_ref14_move (Sp.ref14_move_L0 (Sp.ref14_move n) fuel)
theorem G94_ok (p : Par) (n : Nat) : (∀ {F : Ent3}, EntOk (cfg p) 40 F → EntOk (cfg p) 40 (P_ref14_move (Sp.ref14_move n) F)) := by
  induction n with
  | zero =>
    refine ?_
    · intro F hF a s γ K q h
      unfold P_ref14_move at h
      split at h
      · cases h
      · exact hF _ _ _ _ _ h
  | succ n ih =>
    refine ?_
    · intro F hF a s γ K q h
      unfold P_ref14_move at h
      split at h
      · exact body_ok (tab_loop (tab_nil _) (E_ref14_move_L0 p (Sp.ref14_move n) ih fuel (entL_none _ _ _))) rfl ((e_ref14_move p _ _ _ _ _ _ _ _ _ _ _ _).trans h)
      · exact hF _ _ _ _ _ h
theorem E_ref14_move (p : Par) (n : Nat) {F : Ent3} (hF : EntOk (cfg p) 40 F) : EntOk (cfg p) 40 (P_ref14_move (Sp.ref14_move n) F) := (G94_ok p n) hF
abbrev Ty_ref14_Move : Type 1 := Int → Int → Int → Int → ByteArray → ByteArray → ByteArray → List (List Dat) → List (List Dat) → (γ : Type) → (Int → Int → Int → Int → ByteArray → ByteArray → ByteArray → List (List Dat) → Int → Option γ) → Option γ
def P_ref14_Move (X : Ty_ref14_Move) (F : Ent3) : Ent3 := fun a s γ K => match a, s with
  | [agg [(int i64 v_e0, Own.none), (int i64 v_e1, Own.none), (int i64 v_e2, Own.none), (int i64 v_e3, Own.none), (str v_e4, Own.none), (str v_e5, Own.none), (str v_e6, Own.none), (sl v_e7, Own.none)], dat (sl v_places)], [] => X v_e0 v_e1 v_e2 v_e3 v_e4 v_e5 v_e6 v_e7 v_places γ (fun r0 r1 r2 r3 r4 r5 r6 r7 r8 => K ([(agg [(int i64 r0, Own.none), (int i64 r1, Own.none), (int i64 r2, Own.none), (int i64 r3, Own.none), (str r4, Own.none), (str r5, Own.none), (str r6, Own.none), (sl r7, Own.none)], Own.none), (dat (int i64 r8), Own.none)], []))
  | a, s => F a s γ K
def T_ref14_Move (x_ref10_Check : Ty_ref10_Check) (x_ref10_Kinds : Ty_ref10_Kinds) (x_ref14_Move_L0 : Ty_ref14_Move_L0) (x_ref14_move : Ty_ref14_move) : CallK := (addK (addK (addK noneK 32 (P_ref10_Check x_ref10_Check none3)) 39 (P_ref10_Kinds x_ref10_Kinds none3)) 40 (P_ref14_move x_ref14_move none3))
def L_ref14_Move (x_ref10_Check : Ty_ref10_Check) (x_ref10_Kinds : Ty_ref10_Kinds) (x_ref14_Move_L0 : Ty_ref14_Move_L0) (x_ref14_move : Ty_ref14_move) : LoopK := (addL noneL 19 0 (P_ref14_Move_L0 x_ref14_Move_L0 noneL3))
def Sp.B_ref14_Move (x_ref10_Check : Ty_ref10_Check) (x_ref10_Kinds : Ty_ref10_Kinds) (x_ref14_Move_L0 : Ty_ref14_Move_L0) (x_ref14_move : Ty_ref14_move) (v_e0 v_e1 v_e2 v_e3 : Int) (v_e4 v_e5 v_e6 : ByteArray) (v_e7 v_places : List (List Dat)) (γ : Type) (K : Int → Int → Int → Int → ByteArray → ByteArray → ByteArray → List (List Dat) → Int → Option γ) : Option γ := x_ref10_Check v_e0 v_e1 v_e2 v_e3 v_e4 v_e5 v_e6 v_e7 γ fun z11 => bif !z11 then K 0 0 0 0 (bs []) (bs []) (bs []) [] 100 else x_ref10_Kinds v_e0 v_e1 v_e2 v_e3 v_e4 v_e5 v_e6 v_e7 2 γ fun z12 => x_ref14_Move_L0 v_places z12 0 0 v_e0 v_e1 v_e2 v_e3 v_e4 v_e5 v_e6 v_e7 0 0 0 0 (bs []) (bs []) (bs []) [] γ fun z13 z14 z15 z16 z17 z18 z19 z20 z21 z22 z23 z24 z25 z26 z27 z28 z29 z30 z31 => bif Ex.isExit z13 0 then x_ref14_move z16 z17 z18 z19 z20 z21 z22 z23 v_places γ fun z32 z33 z34 z35 z36 z37 z38 z39 => K z32 z33 z34 z35 z36 z37 z38 z39 0 else bif Ex.isRet z13 then K z24 z25 z26 z27 z28 z29 z30 z31 z14 else none
theorem e_ref14_Move (p : Par) (x_ref10_Check x_ref10_Kinds x_ref14_Move_L0 x_ref14_move v_e0 v_e1 v_e2 v_e3 v_e4 v_e5 v_e6 v_e7 v_places) (γ : Type) (K : List Ent × Sig → Option γ) : evFK (cfg p) (T_ref14_Move x_ref10_Check x_ref10_Kinds x_ref14_Move_L0 x_ref14_move) (L_ref14_Move x_ref10_Check x_ref10_Kinds x_ref14_Move_L0 x_ref14_move) 19 [agg [(int i64 v_e0, Own.none), (int i64 v_e1, Own.none), (int i64 v_e2, Own.none), (int i64 v_e3, Own.none), (str v_e4, Own.none), (str v_e5, Own.none), (str v_e6, Own.none), (sl v_e7, Own.none)], dat (sl v_places)] [] γ K = Sp.B_ref14_Move x_ref10_Check x_ref10_Kinds x_ref14_Move_L0 x_ref14_move v_e0 v_e1 v_e2 v_e3 v_e4 v_e5 v_e6 v_e7 v_places γ (fun r0 r1 r2 r3 r4 r5 r6 r7 r8 => K ([(agg [(int i64 r0, Own.none), (int i64 r1, Own.none), (int i64 r2, Own.none), (int i64 r3, Own.none), (str r4, Own.none), (str r5, Own.none), (str r6, Own.none), (sl r7, Own.none)], Own.none), (dat (int i64 r8), Own.none)], [])) := by kernel_rfl
def Sp.ref14_Move : Ty_ref14_Move := Sp.B_ref14_Move Sp.ref10_Check (Sp.ref10_Kinds fuel) (Sp.ref14_Move_L0 fuel) (Sp.ref14_move fuel)
theorem E_ref14_Move (p : Par) {F : Ent3} (hF : EntOk (cfg p) 19 F) : EntOk (cfg p) 19 (P_ref14_Move Sp.ref14_Move F) := by
  intro a s γ K q h
  unfold P_ref14_Move at h
  split at h
  · exact body_ok (tab_loop (tab_call (tab_call (tab_call (tab_nil _) (E_ref10_Check p (ent_none _ _))) (E_ref10_Kinds p fuel (ent_none _ _))) (E_ref14_move p fuel (ent_none _ _))) (E_ref14_Move_L0 p fuel (entL_none _ _ _))) rfl ((e_ref14_Move p _ _ _ _ _ _ _ _ _ _ _ _ _ _ _).trans h)
  · exact hF _ _ _ _ _ h
abbrev Ty_ref14_Uses_L2 : Type 1 := List (List Dat) → Int → List (List Dat) → Int → (γ : Type) → (Ex → List (List Dat) → Int → Option γ) → Option γ
def P_ref14_Uses_L2 (X : Ty_ref14_Uses_L2) (F : Loop3) : Loop3 := fun a s γ K => match a, s with
  | [dat (sl v_l), dat (int i64 v_n)], ([dat (sl v_out), dat (int i64 v_i)], []) => X v_l v_n v_out v_i γ (fun e x0 x1 => K (e, ([dat (sl x0), dat (int i64 x1)], [])))
  | a, s => F a s γ K
def T_ref14_Uses_L2 : CallK := noneK
def L_ref14_Uses_L2 : LoopK := noneL
def Sp.B_ref14_Uses_L2 (x_ref14_Uses_L2 : Ty_ref14_Uses_L2)  (v_l : List (List Dat)) (v_n : Int) (v_out : List (List Dat)) (v_i : Int) (γ : Type) (K : Ex → List (List Dat) → Int → Option γ) : Option γ := bif sized v_out 1 then bif decide (v_i < Int.ofNat (List.length v_l)) then elemAt v_l v_i fun z6 => bif List.length z6 == 8 then cellAt (List.drop 1 z6) 0 fun z7 => Aev.asInt i64 z7 fun z8 => bif decide (z8 = v_n) then bif sized v_out 1 && true && true && decide ((List.length v_out + 1) * 9 ≤ 70368744177664) && true then K (Ex.exit 2) (v_out ++ [[int i64 v_n]]) v_i else none else x_ref14_Uses_L2 v_l v_n v_out (IntKind.wrap i64 (v_i + 1)) γ K else none else K (Ex.exit 2) v_out v_i else none
theorem e_ref14_Uses_L2 (p : Par) (x_ref14_Uses_L2 : Ty_ref14_Uses_L2) (v_l v_n v_out v_i) (γ : Type) (K : Ex × Vars → Option γ) : roundK (cfg p) (T_ref14_Uses_L2) (L_ref14_Uses_L2) 22 2 [dat (sl v_l), dat (int i64 v_n)] ([dat (sl v_out), dat (int i64 v_i)], []) γ (contL (fun v => P_ref14_Uses_L2 x_ref14_Uses_L2 noneL3 [dat (sl v_l), dat (int i64 v_n)] v γ K) K) = Sp.B_ref14_Uses_L2 x_ref14_Uses_L2 v_l v_n v_out v_i γ (fun e x0 x1 => K (e, ([dat (sl x0), dat (int i64 x1)], []))) := by kernel_rfl
def Sp.ref14_Uses_L2 : Nat → Ty_ref14_Uses_L2
  | 0 => fun _ _ _ _ _ _ => none
  | n + 1 => Sp.B_ref14_Uses_L2 (Sp.ref14_Uses_L2 n) 
theorem E0_ref14_Uses_L2 (p : Par)   : ∀ n, EntOkL (cfg p) 22 2 (P_ref14_Uses_L2 (Sp.ref14_Uses_L2 n) noneL3) := entL_rounds (tab_nil _) (by kernel_rfl) (fun c v γ K => by unfold P_ref14_Uses_L2; split <;> rfl) fun n c v γ K q h => by
  unfold P_ref14_Uses_L2 at h
  split at h
  · exact (e_ref14_Uses_L2 p _ _ _ _ _ _ _).trans h
  · cases h
theorem E_ref14_Uses_L2 (p : Par)   (n : Nat) {F : Loop3} (hF : EntOkL (cfg p) 22 2 F) : EntOkL (cfg p) 22 2 (P_ref14_Uses_L2 (Sp.ref14_Uses_L2 n) F) := by
  intro c v γ K q h
  unfold P_ref14_Uses_L2 at h
  split at h
  · exact E0_ref14_Uses_L2 p n _ _ _ _ _ h
  · exact hF _ _ _ _ _ h
abbrev Ty_ref14_Uses_L0 : Type 1 := List (List Dat) → List (List Dat) → Int → (γ : Type) → (Ex → List (List Dat) → Int → Option γ) → Option γ
def P_ref14_Uses_L0 (X : Ty_ref14_Uses_L0) (F : Loop3) : Loop3 := fun a s γ K => match a, s with
  | [dat (sl v_l)], ([dat (sl v_out), dat (int i64 v_n)], []) => X v_l v_out v_n γ (fun e x0 x1 => K (e, ([dat (sl x0), dat (int i64 x1)], [])))
  | a, s => F a s γ K
def T_ref14_Uses_L0 (x_ref14_Uses_L2 : Ty_ref14_Uses_L2) : CallK := noneK
def L_ref14_Uses_L0 (x_ref14_Uses_L2 : Ty_ref14_Uses_L2) : LoopK := (addL noneL 22 2 (P_ref14_Uses_L2 x_ref14_Uses_L2 noneL3))
def Sp.B_ref14_Uses_L0 (x_ref14_Uses_L0 : Ty_ref14_Uses_L0) (x_ref14_Uses_L2 : Ty_ref14_Uses_L2) (v_l v_out : List (List Dat)) (v_n : Int) (γ : Type) (K : Ex → List (List Dat) → Int → Option γ) : Option γ := bif sized v_out 1 then bif decide (v_n < 32) then x_ref14_Uses_L2 v_l v_n v_out 0 γ fun z5 z6 z7 => bif sized z6 1 then bif Ex.isExit z5 2 then x_ref14_Uses_L0 v_l z6 (IntKind.wrap i64 (v_n + 1)) γ K else bif Ex.isRet z5 then K Ex.ret z6 v_n else none else none else K (Ex.exit 0) v_out v_n else none
theorem e_ref14_Uses_L0 (p : Par) (x_ref14_Uses_L0 : Ty_ref14_Uses_L0) (x_ref14_Uses_L2 v_l v_out v_n) (γ : Type) (K : Ex × Vars → Option γ) : roundK (cfg p) (T_ref14_Uses_L0 x_ref14_Uses_L2) (L_ref14_Uses_L0 x_ref14_Uses_L2) 22 0 [dat (sl v_l)] ([dat (sl v_out), dat (int i64 v_n)], []) γ (contL (fun v => P_ref14_Uses_L0 x_ref14_Uses_L0 noneL3 [dat (sl v_l)] v γ K) K) = Sp.B_ref14_Uses_L0 x_ref14_Uses_L0 x_ref14_Uses_L2 v_l v_out v_n γ (fun e x0 x1 => K (e, ([dat (sl x0), dat (int i64 x1)], []))) := by kernel_rfl
def Sp.ref14_Uses_L0 : Nat → Ty_ref14_Uses_L0
  | 0 => fun _ _ _ _ _ => none
  | n + 1 => Sp.B_ref14_Uses_L0 (Sp.ref14_Uses_L0 n) (Sp.ref14_Uses_L2 fuel)
theorem E0_ref14_Uses_L0 (p : Par)   : ∀ n, EntOkL (cfg p) 22 0 (P_ref14_Uses_L0 (Sp.ref14_Uses_L0 n) noneL3) := entL_rounds (tab_loop (tab_nil _) (E_ref14_Uses_L2 p fuel (entL_none _ _ _))) (by kernel_rfl) (fun c v γ K => by unfold P_ref14_Uses_L0; split <;> rfl) fun n c v γ K q h => by
  unfold P_ref14_Uses_L0 at h
  split at h
  · exact (e_ref14_Uses_L0 p _ _ _ _ _ _ _).trans h
  · cases h
theorem E_ref14_Uses_L0 (p : Par)   (n : Nat) {F : Loop3} (hF : EntOkL (cfg p) 22 0 F) : EntOkL (cfg p) 22 0 (P_ref14_Uses_L0 (Sp.ref14_Uses_L0 n) F) := by
  intro c v γ K q h
  unfold P_ref14_Uses_L0 at h
  split at h
  · exact E0_ref14_Uses_L0 p n _ _ _ _ _ h
  · exact hF _ _ _ _ _ h
abbrev Ty_ref14_Uses : Type 1 := Int → Int → Int → Int → ByteArray → ByteArray → ByteArray → List (List Dat) → (γ : Type) → (List (List Dat) → Option γ) → Option γ
def P_ref14_Uses (X : Ty_ref14_Uses) (F : Ent3) : Ent3 := fun a s γ K => match a, s with
  | [agg [(int i64 v_e0, Own.none), (int i64 v_e1, Own.none), (int i64 v_e2, Own.none), (int i64 v_e3, Own.none), (str v_e4, Own.none), (str v_e5, Own.none), (str v_e6, Own.none), (sl v_e7, Own.none)]], [] => X v_e0 v_e1 v_e2 v_e3 v_e4 v_e5 v_e6 v_e7 γ (fun r0 => K ([(dat (sl r0), Own.none)], []))
  | a, s => F a s γ K
def T_ref14_Uses (x_ref10_Check : Ty_ref10_Check) (x_ref10_Kinds : Ty_ref10_Kinds) (x_ref14_Uses_L0 : Ty_ref14_Uses_L0) : CallK := (addK (addK noneK 32 (P_ref10_Check x_ref10_Check none3)) 39 (P_ref10_Kinds x_ref10_Kinds none3))
def L_ref14_Uses (x_ref10_Check : Ty_ref10_Check) (x_ref10_Kinds : Ty_ref10_Kinds) (x_ref14_Uses_L0 : Ty_ref14_Uses_L0) : LoopK := (addL noneL 22 0 (P_ref14_Uses_L0 x_ref14_Uses_L0 noneL3))
def Sp.B_ref14_Uses (x_ref10_Check : Ty_ref10_Check) (x_ref10_Kinds : Ty_ref10_Kinds) (x_ref14_Uses_L0 : Ty_ref14_Uses_L0) (v_e0 v_e1 v_e2 v_e3 : Int) (v_e4 v_e5 v_e6 : ByteArray) (v_e7 : List (List Dat)) (γ : Type) (K : List (List Dat) → Option γ) : Option γ := x_ref10_Check v_e0 v_e1 v_e2 v_e3 v_e4 v_e5 v_e6 v_e7 γ fun z10 => bif !z10 then K [] else x_ref10_Kinds v_e0 v_e1 v_e2 v_e3 v_e4 v_e5 v_e6 v_e7 2 γ fun z11 => x_ref14_Uses_L0 z11 [] 0 γ fun z12 z13 z14 => bif sized z13 1 then bif Ex.isExit z12 0 then K z13 else bif Ex.isRet z12 then none else none else none
theorem e_ref14_Uses (p : Par) (x_ref10_Check x_ref10_Kinds x_ref14_Uses_L0 v_e0 v_e1 v_e2 v_e3 v_e4 v_e5 v_e6 v_e7) (γ : Type) (K : List Ent × Sig → Option γ) : evFK (cfg p) (T_ref14_Uses x_ref10_Check x_ref10_Kinds x_ref14_Uses_L0) (L_ref14_Uses x_ref10_Check x_ref10_Kinds x_ref14_Uses_L0) 22 [agg [(int i64 v_e0, Own.none), (int i64 v_e1, Own.none), (int i64 v_e2, Own.none), (int i64 v_e3, Own.none), (str v_e4, Own.none), (str v_e5, Own.none), (str v_e6, Own.none), (sl v_e7, Own.none)]] [] γ K = Sp.B_ref14_Uses x_ref10_Check x_ref10_Kinds x_ref14_Uses_L0 v_e0 v_e1 v_e2 v_e3 v_e4 v_e5 v_e6 v_e7 γ (fun r0 => K ([(dat (sl r0), Own.none)], [])) := by kernel_rfl
def Sp.ref14_Uses : Ty_ref14_Uses := Sp.B_ref14_Uses Sp.ref10_Check (Sp.ref10_Kinds fuel) (Sp.ref14_Uses_L0 fuel)
theorem E_ref14_Uses (p : Par) {F : Ent3} (hF : EntOk (cfg p) 22 F) : EntOk (cfg p) 22 (P_ref14_Uses Sp.ref14_Uses F) := by
  intro a s γ K q h
  unfold P_ref14_Uses at h
  split at h
  · exact body_ok (tab_loop (tab_call (tab_call (tab_nil _) (E_ref10_Check p (ent_none _ _))) (E_ref10_Kinds p fuel (ent_none _ _))) (E_ref14_Uses_L0 p fuel (entL_none _ _ _))) rfl ((e_ref14_Uses p _ _ _ _ _ _ _ _ _ _ _ _ _).trans h)
  · exact hF _ _ _ _ _ h
abbrev Ty_ref07_Same_L0 : Type 1 := List (List Dat) → List (List Dat) → Bool → Int → (γ : Type) → (Ex → Bool → Int → Option γ) → Option γ
def P_ref07_Same_L0 (X : Ty_ref07_Same_L0) (F : Loop3) : Loop3 := fun a s γ K => match a, s with
  | [dat (sl v_a), dat (sl v_b)], ([dat (Dat.bool v_), dat (int i64 v_i)], []) => X v_a v_b v_ v_i γ (fun e x0 x1 => K (e, ([dat (Dat.bool x0), dat (int i64 x1)], [])))
  | a, s => F a s γ K
def T_ref07_Same_L0 : CallK := noneK
def L_ref07_Same_L0 : LoopK := noneL
def Sp.B_ref07_Same_L0 (x_ref07_Same_L0 : Ty_ref07_Same_L0)  (v_a v_b : List (List Dat)) (v_ : Bool) (v_i : Int) (γ : Type) (K : Ex → Bool → Int → Option γ) : Option γ := bif decide (v_i < Int.ofNat (List.length v_a)) then elemAt v_a v_i fun z6 => bif List.length z6 == 1 then cellAt z6 0 fun z7 => Aev.asInt i64 z7 fun z8 => elemAt v_b v_i fun z9 => bif List.length z9 == 1 then cellAt z9 0 fun z10 => Aev.asInt i64 z10 fun z11 => bif !decide (z8 = z11) then K Ex.ret false v_i else x_ref07_Same_L0 v_a v_b v_ (IntKind.wrap i64 (v_i + 1)) γ K else none else none else K (Ex.exit 0) v_ v_i
theorem e_ref07_Same_L0 (p : Par) (x_ref07_Same_L0 : Ty_ref07_Same_L0) (v_a v_b v_ v_i) (γ : Type) (K : Ex × Vars → Option γ) : roundK (cfg p) (T_ref07_Same_L0) (L_ref07_Same_L0) 20 0 [dat (sl v_a), dat (sl v_b)] ([dat (Dat.bool v_), dat (int i64 v_i)], []) γ (contL (fun v => P_ref07_Same_L0 x_ref07_Same_L0 noneL3 [dat (sl v_a), dat (sl v_b)] v γ K) K) = Sp.B_ref07_Same_L0 x_ref07_Same_L0 v_a v_b v_ v_i γ (fun e x0 x1 => K (e, ([dat (Dat.bool x0), dat (int i64 x1)], []))) := by kernel_rfl
def Sp.ref07_Same_L0 : Nat → Ty_ref07_Same_L0
  | 0 => fun _ _ _ _ _ _ => none
  | n + 1 => Sp.B_ref07_Same_L0 (Sp.ref07_Same_L0 n) 
theorem E0_ref07_Same_L0 (p : Par)   : ∀ n, EntOkL (cfg p) 20 0 (P_ref07_Same_L0 (Sp.ref07_Same_L0 n) noneL3) := entL_rounds (tab_nil _) (by kernel_rfl) (fun c v γ K => by unfold P_ref07_Same_L0; split <;> rfl) fun n c v γ K q h => by
  unfold P_ref07_Same_L0 at h
  split at h
  · exact (e_ref07_Same_L0 p _ _ _ _ _ _ _).trans h
  · cases h
theorem E_ref07_Same_L0 (p : Par)   (n : Nat) {F : Loop3} (hF : EntOkL (cfg p) 20 0 F) : EntOkL (cfg p) 20 0 (P_ref07_Same_L0 (Sp.ref07_Same_L0 n) F) := by
  intro c v γ K q h
  unfold P_ref07_Same_L0 at h
  split at h
  · exact E0_ref07_Same_L0 p n _ _ _ _ _ h
  · exact hF _ _ _ _ _ h
abbrev Ty_ref07_Same : Type 1 := List (List Dat) → List (List Dat) → (γ : Type) → (Bool → Option γ) → Option γ
def P_ref07_Same (X : Ty_ref07_Same) (F : Ent3) : Ent3 := fun a s γ K => match a, s with
  | [dat (sl v_a), dat (sl v_b)], [] => X v_a v_b γ (fun r0 => K ([(dat (Dat.bool r0), Own.none)], []))
  | a, s => F a s γ K
def T_ref07_Same (x_ref07_Same_L0 : Ty_ref07_Same_L0) : CallK := noneK
def L_ref07_Same (x_ref07_Same_L0 : Ty_ref07_Same_L0) : LoopK := (addL noneL 20 0 (P_ref07_Same_L0 x_ref07_Same_L0 noneL3))
def Sp.B_ref07_Same (x_ref07_Same_L0 : Ty_ref07_Same_L0) (v_a v_b : List (List Dat)) (γ : Type) (K : Bool → Option γ) : Option γ := bif !decide (Int.ofNat (List.length v_a) = Int.ofNat (List.length v_b)) then K false else x_ref07_Same_L0 v_a v_b false 0 γ fun z4 z5 z6 => bif Ex.isExit z4 0 then K true else bif Ex.isRet z4 then K z5 else none
theorem e_ref07_Same (p : Par) (x_ref07_Same_L0 v_a v_b) (γ : Type) (K : List Ent × Sig → Option γ) : evFK (cfg p) (T_ref07_Same x_ref07_Same_L0) (L_ref07_Same x_ref07_Same_L0) 20 [dat (sl v_a), dat (sl v_b)] [] γ K = Sp.B_ref07_Same x_ref07_Same_L0 v_a v_b γ (fun r0 => K ([(dat (Dat.bool r0), Own.none)], [])) := by kernel_rfl
def Sp.ref07_Same : Ty_ref07_Same := Sp.B_ref07_Same (Sp.ref07_Same_L0 fuel)
theorem E_ref07_Same (p : Par) {F : Ent3} (hF : EntOk (cfg p) 20 F) : EntOk (cfg p) 20 (P_ref07_Same Sp.ref07_Same F) := by
  intro a s γ K q h
  unfold P_ref07_Same at h
  split at h
  · exact body_ok (tab_loop (tab_nil _) (E_ref07_Same_L0 p fuel (entL_none _ _ _))) rfl ((e_ref07_Same p _ _ _ _ _).trans h)
  · exact hF _ _ _ _ _ h
abbrev Ty_law14_TypesMoves : Type 1 := Int → Int → Int → Int → ByteArray → ByteArray → ByteArray → List (List Dat) → List (List Dat) → (γ : Type) → (Bool → Option γ) → Option γ
def P_law14_TypesMoves (X : Ty_law14_TypesMoves) (F : Ent3) : Ent3 := fun a s γ K => match a, s with
  | [agg [(int i64 v_e0, Own.none), (int i64 v_e1, Own.none), (int i64 v_e2, Own.none), (int i64 v_e3, Own.none), (str v_e4, Own.none), (str v_e5, Own.none), (str v_e6, Own.none), (sl v_e7, Own.none)], dat (sl v_places)], [] => X v_e0 v_e1 v_e2 v_e3 v_e4 v_e5 v_e6 v_e7 v_places γ (fun r0 => K ([(dat (Dat.bool r0), Own.none)], []))
  | a, s => F a s γ K
def T_law14_TypesMoves (x_ref10_Large : Ty_ref10_Large) (x_law14_lives : Ty_law14_lives) (x_types_Move : Ty_types_Move) (x_ref14_Move : Ty_ref14_Move) (x_ref10_Same : Ty_ref10_Same) (x_types_Uses : Ty_types_Uses) (x_ref14_Uses : Ty_ref14_Uses) (x_ref07_Same : Ty_ref07_Same) : CallK := (addK (addK (addK (addK (addK (addK (addK (addK noneK 12 (P_ref10_Large x_ref10_Large none3)) 9 (P_law14_lives x_law14_lives none3)) 18 (P_types_Move x_types_Move none3)) 19 (P_ref14_Move x_ref14_Move none3)) 17 (P_ref10_Same x_ref10_Same none3)) 21 (P_types_Uses x_types_Uses none3)) 22 (P_ref14_Uses x_ref14_Uses none3)) 20 (P_ref07_Same x_ref07_Same none3))
def L_law14_TypesMoves (x_ref10_Large : Ty_ref10_Large) (x_law14_lives : Ty_law14_lives) (x_types_Move : Ty_types_Move) (x_ref14_Move : Ty_ref14_Move) (x_ref10_Same : Ty_ref10_Same) (x_types_Uses : Ty_types_Uses) (x_ref14_Uses : Ty_ref14_Uses) (x_ref07_Same : Ty_ref07_Same) : LoopK := noneL
def Sp.B_law14_TypesMoves (x_ref10_Large : Ty_ref10_Large) (x_law14_lives : Ty_law14_lives) (x_types_Move : Ty_types_Move) (x_ref14_Move : Ty_ref14_Move) (x_ref10_Same : Ty_ref10_Same) (x_types_Uses : Ty_types_Uses) (x_ref14_Uses : Ty_ref14_Uses) (x_ref07_Same : Ty_ref07_Same) (v_e0 v_e1 v_e2 v_e3 : Int) (v_e4 v_e5 v_e6 : ByteArray) (v_e7 v_places : List (List Dat)) (γ : Type) (K : Bool → Option γ) : Option γ := x_ref10_Large v_e0 v_e1 v_e2 v_e3 v_e4 v_e5 v_e6 v_e7 γ fun z11 => bif z11 then x_law14_lives γ fun z12 => K z12 else bif decide (100 < Int.ofNat (List.length v_places)) then x_law14_lives γ fun z13 => K z13 else x_types_Move v_e0 v_e1 v_e2 v_e3 v_e4 v_e5 v_e6 v_e7 v_places γ fun z14 z15 z16 z17 z18 z19 z20 z21 z22 => x_ref14_Move v_e0 v_e1 v_e2 v_e3 v_e4 v_e5 v_e6 v_e7 v_places γ fun z23 z24 z25 z26 z27 z28 z29 z30 z31 => x_law14_lives γ fun z32 => bif z32 then bif decide (z22 = z31) then x_ref10_Same z14 z15 z16 z17 z18 z19 z20 z21 z23 z24 z25 z26 z27 z28 z29 z30 γ fun z33 => bif z33 then x_types_Uses v_e0 v_e1 v_e2 v_e3 v_e4 v_e5 v_e6 v_e7 γ fun z34 => x_ref14_Uses v_e0 v_e1 v_e2 v_e3 v_e4 v_e5 v_e6 v_e7 γ fun z35 => x_ref07_Same z34 z35 γ fun z36 => K z36 else K false else K false else K false
theorem e_law14_TypesMoves (p : Par) (x_ref10_Large x_law14_lives x_types_Move x_ref14_Move x_ref10_Same x_types_Uses x_ref14_Uses x_ref07_Same v_e0 v_e1 v_e2 v_e3 v_e4 v_e5 v_e6 v_e7 v_places) (γ : Type) (K : List Ent × Sig → Option γ) : evFK (cfg p) (T_law14_TypesMoves x_ref10_Large x_law14_lives x_types_Move x_ref14_Move x_ref10_Same x_types_Uses x_ref14_Uses x_ref07_Same) (L_law14_TypesMoves x_ref10_Large x_law14_lives x_types_Move x_ref14_Move x_ref10_Same x_types_Uses x_ref14_Uses x_ref07_Same) 6 [agg [(int i64 v_e0, Own.none), (int i64 v_e1, Own.none), (int i64 v_e2, Own.none), (int i64 v_e3, Own.none), (str v_e4, Own.none), (str v_e5, Own.none), (str v_e6, Own.none), (sl v_e7, Own.none)], dat (sl v_places)] [] γ K = Sp.B_law14_TypesMoves x_ref10_Large x_law14_lives x_types_Move x_ref14_Move x_ref10_Same x_types_Uses x_ref14_Uses x_ref07_Same v_e0 v_e1 v_e2 v_e3 v_e4 v_e5 v_e6 v_e7 v_places γ (fun r0 => K ([(dat (Dat.bool r0), Own.none)], [])) := by kernel_rfl
def Sp.law14_TypesMoves : Ty_law14_TypesMoves := Sp.B_law14_TypesMoves Sp.ref10_Large Sp.law14_lives Sp.types_Move Sp.ref14_Move (Sp.ref10_Same fuel) Sp.types_Uses Sp.ref14_Uses Sp.ref07_Same
theorem E_law14_TypesMoves (p : Par) {F : Ent3} (hF : EntOk (cfg p) 6 F) : EntOk (cfg p) 6 (P_law14_TypesMoves Sp.law14_TypesMoves F) := by
  intro a s γ K q h
  unfold P_law14_TypesMoves at h
  split at h
  · exact body_ok (tab_call (tab_call (tab_call (tab_call (tab_call (tab_call (tab_call (tab_call (tab_nil _) (E_ref10_Large p (ent_none _ _))) (E_law14_lives p (ent_none _ _))) (E_types_Move p (ent_none _ _))) (E_ref14_Move p (ent_none _ _))) (E_ref10_Same p fuel (ent_none _ _))) (E_types_Uses p (ent_none _ _))) (E_ref14_Uses p (ent_none _ _))) (E_ref07_Same p (ent_none _ _))) rfl ((e_law14_TypesMoves p _ _ _ _ _ _ _ _ _ _ _ _ _ _ _ _ _ _ _).trans h)
  · exact hF _ _ _ _ _ h
abbrev Ty_law14_TypesMoved_L0 : Type 1 := List (List Dat) → Int → List (List Dat) → List (List Dat) → Int → Int → Int → Int → Int → ByteArray → ByteArray → ByteArray → List (List Dat) → (γ : Type) → (Ex → List (List Dat) → List (List Dat) → Int → Int → Int → Int → Int → ByteArray → ByteArray → ByteArray → List (List Dat) → Option γ) → Option γ
def P_law14_TypesMoved_L0 (X : Ty_law14_TypesMoved_L0) (F : Loop3) : Loop3 := fun a s γ K => match a, s with
  | [dat (sl v_cols), dat (int i64 v_by), AVal.loc 3 0], ([dat (sl v_places), dat (sl v_more), dat (int i64 v_i), agg [(int i64 w0, Own.none), (int i64 w1, Own.none), (int i64 w2, Own.none), (int i64 w3, Own.none), (str w4, Own.none), (str w5, Own.none), (str w6, Own.none), (sl w7, Own.none)]], []) => X v_cols v_by v_places v_more v_i w0 w1 w2 w3 w4 w5 w6 w7 γ (fun e x0 x1 x2 x3 x4 x5 x6 x7 x8 x9 x10 => K (e, ([dat (sl x0), dat (sl x1), dat (int i64 x2), agg [(int i64 x3, Own.none), (int i64 x4, Own.none), (int i64 x5, Own.none), (int i64 x6, Own.none), (str x7, Own.none), (str x8, Own.none), (str x9, Own.none), (sl x10, Own.none)]], [])))
  | a, s => F a s γ K
def T_law14_TypesMoved_L0 : CallK := noneK
def L_law14_TypesMoved_L0 : LoopK := noneL
def Sp.B_law14_TypesMoved_L0 (x_law14_TypesMoved_L0 : Ty_law14_TypesMoved_L0)  (v_cols : List (List Dat)) (v_by : Int) (v_places v_more : List (List Dat)) (v_i w0 w1 w2 w3 : Int) (w4 w5 w6 : ByteArray) (w7 : List (List Dat)) (γ : Type) (K : Ex → List (List Dat) → List (List Dat) → Int → Int → Int → Int → Int → ByteArray → ByteArray → ByteArray → List (List Dat) → Option γ) : Option γ := bif sized v_places 1 then bif sized v_more 3 then bif decide (v_i < Int.ofNat (List.length v_cols)) then bif sized v_places 1 && true && true && decide ((List.length v_places + 1) * 9 ≤ 70368744177664) && true then x_law14_TypesMoved_L0 v_cols v_by (v_places ++ [[int i64 (IntKind.wrap i64 (v_i + v_by))]]) v_more (IntKind.wrap i64 (v_i + 1)) w0 w1 w2 w3 w4 w5 w6 w7 γ K else none else K (Ex.exit 0) v_places v_more v_i w0 w1 w2 w3 w4 w5 w6 w7 else none else none
theorem e_law14_TypesMoved_L0 (p : Par) (x_law14_TypesMoved_L0 : Ty_law14_TypesMoved_L0) (v_cols v_by v_places v_more v_i w0 w1 w2 w3 w4 w5 w6 w7) (γ : Type) (K : Ex × Vars → Option γ) : roundK (cfg p) (T_law14_TypesMoved_L0) (L_law14_TypesMoved_L0) 7 0 [dat (sl v_cols), dat (int i64 v_by), AVal.loc 3 0] ([dat (sl v_places), dat (sl v_more), dat (int i64 v_i), agg [(int i64 w0, Own.none), (int i64 w1, Own.none), (int i64 w2, Own.none), (int i64 w3, Own.none), (str w4, Own.none), (str w5, Own.none), (str w6, Own.none), (sl w7, Own.none)]], []) γ (contL (fun v => P_law14_TypesMoved_L0 x_law14_TypesMoved_L0 noneL3 [dat (sl v_cols), dat (int i64 v_by), AVal.loc 3 0] v γ K) K) = Sp.B_law14_TypesMoved_L0 x_law14_TypesMoved_L0 v_cols v_by v_places v_more v_i w0 w1 w2 w3 w4 w5 w6 w7 γ (fun e x0 x1 x2 x3 x4 x5 x6 x7 x8 x9 x10 => K (e, ([dat (sl x0), dat (sl x1), dat (int i64 x2), agg [(int i64 x3, Own.none), (int i64 x4, Own.none), (int i64 x5, Own.none), (int i64 x6, Own.none), (str x7, Own.none), (str x8, Own.none), (str x9, Own.none), (sl x10, Own.none)]], []))) := by kernel_rfl
def Sp.law14_TypesMoved_L0 : Nat → Ty_law14_TypesMoved_L0
  | 0 => fun _ _ _ _ _ _ _ _ _ _ _ _ _ _ _ => none
  | n + 1 => Sp.B_law14_TypesMoved_L0 (Sp.law14_TypesMoved_L0 n) 
theorem E0_law14_TypesMoved_L0 (p : Par)   : ∀ n, EntOkL (cfg p) 7 0 (P_law14_TypesMoved_L0 (Sp.law14_TypesMoved_L0 n) noneL3) := entL_rounds (tab_nil _) (by kernel_rfl) (fun c v γ K => by unfold P_law14_TypesMoved_L0; split <;> rfl) fun n c v γ K q h => by
  unfold P_law14_TypesMoved_L0 at h
  split at h
  · exact (e_law14_TypesMoved_L0 p _ _ _ _ _ _ _ _ _ _ _ _ _ _ _ _).trans h
  · cases h
theorem E_law14_TypesMoved_L0 (p : Par)   (n : Nat) {F : Loop3} (hF : EntOkL (cfg p) 7 0 F) : EntOkL (cfg p) 7 0 (P_law14_TypesMoved_L0 (Sp.law14_TypesMoved_L0 n) F) := by
  intro c v γ K q h
  unfold P_law14_TypesMoved_L0 at h
  split at h
  · exact E0_law14_TypesMoved_L0 p n _ _ _ _ _ h
  · exact hF _ _ _ _ _ h
abbrev Ty_law14_TypesMoved : Type 1 := Int → Int → Int → Int → ByteArray → ByteArray → ByteArray → List (List Dat) → List (List Dat) → Int → (γ : Type) → (Bool → Option γ) → Option γ
def P_law14_TypesMoved (X : Ty_law14_TypesMoved) (F : Ent3) : Ent3 := fun a s γ K => match a, s with
  | [agg [(int i64 v_e0, Own.none), (int i64 v_e1, Own.none), (int i64 v_e2, Own.none), (int i64 v_e3, Own.none), (str v_e4, Own.none), (str v_e5, Own.none), (str v_e6, Own.none), (sl v_e7, Own.none)], dat (sl v_cols), dat (int i64 v_by)], [] => X v_e0 v_e1 v_e2 v_e3 v_e4 v_e5 v_e6 v_e7 v_cols v_by γ (fun r0 => K ([(dat (Dat.bool r0), Own.none)], []))
  | a, s => F a s γ K
def T_law14_TypesMoved (x_law14_large : Ty_law14_large) (x_law14_lives : Ty_law14_lives) (x_ref10_Large : Ty_ref10_Large) (x_law14_TypesMoved_L0 : Ty_law14_TypesMoved_L0) (x_types_Move : Ty_types_Move) (x_types_Type : Ty_types_Type) : CallK := (addK (addK (addK (addK (addK noneK 8 (P_law14_large x_law14_large none3)) 9 (P_law14_lives x_law14_lives none3)) 12 (P_ref10_Large x_ref10_Large none3)) 18 (P_types_Move x_types_Move none3)) 15 (P_types_Type x_types_Type none3))
def L_law14_TypesMoved (x_law14_large : Ty_law14_large) (x_law14_lives : Ty_law14_lives) (x_ref10_Large : Ty_ref10_Large) (x_law14_TypesMoved_L0 : Ty_law14_TypesMoved_L0) (x_types_Move : Ty_types_Move) (x_types_Type : Ty_types_Type) : LoopK := (addL noneL 7 0 (P_law14_TypesMoved_L0 x_law14_TypesMoved_L0 noneL3))
def Sp.B_law14_TypesMoved (x_law14_large : Ty_law14_large) (x_law14_lives : Ty_law14_lives) (x_ref10_Large : Ty_ref10_Large) (x_law14_TypesMoved_L0 : Ty_law14_TypesMoved_L0) (x_types_Move : Ty_types_Move) (x_types_Type : Ty_types_Type) (v_e0 v_e1 v_e2 v_e3 : Int) (v_e4 v_e5 v_e6 : ByteArray) (v_e7 v_cols : List (List Dat)) (v_by : Int) (γ : Type) (K : Bool → Option γ) : Option γ := x_law14_large v_cols γ fun z12 => bif z12 then x_law14_lives γ fun z13 => K z13 else x_ref10_Large v_e0 v_e1 v_e2 v_e3 v_e4 v_e5 v_e6 v_e7 γ fun z14 => bif z14 then x_law14_lives γ fun z15 => K z15 else bif decide (v_by < 0) then x_law14_lives γ fun z16 => K z16 else bif decide (20 < v_by) then x_law14_lives γ fun z17 => K z17 else bif decide (0 ≤ v_by) && decide (v_by ≤ v_by) && decide (v_by * 41 ≤ 70368744177664) && true && true then x_law14_TypesMoved_L0 v_cols v_by [] (List.replicate (Int.toNat v_by) [str (bs []), str (bs []), int i64 0]) 0 v_e0 v_e1 v_e2 v_e3 v_e4 v_e5 v_e6 v_e7 γ fun z18 z19 z20 z21 z22 z23 z24 z25 z26 z27 z28 z29 => bif sized z19 1 then bif sized z20 3 then bif Ex.isExit z18 0 then bif sized z20 3 && sized v_cols 3 && true && decide ((List.length z20 + List.length v_cols) * 41 ≤ 70368744177664) && true then x_types_Move z22 z23 z24 z25 z26 z27 z28 z29 z19 γ fun z30 z31 z32 z33 z34 z35 z36 z37 z38 => x_law14_lives γ fun z39 => bif !z39 then x_law14_lives γ fun z40 => K z40 else bif !decide (z38 = 0) then x_law14_lives γ fun z41 => K z41 else x_types_Type z22 z23 z24 z25 z26 z27 z28 z29 v_cols γ fun z42 z43 => x_types_Type z30 z31 z32 z33 z34 z35 z36 z37 (z20 ++ v_cols) γ fun z44 z45 => bif decide (z42 = z44) then K (decide (z43 = z45)) else K false else none else bif Ex.isRet z18 then none else none else none else none else none
theorem e_law14_TypesMoved (p : Par) (x_law14_large x_law14_lives x_ref10_Large x_law14_TypesMoved_L0 x_types_Move x_types_Type v_e0 v_e1 v_e2 v_e3 v_e4 v_e5 v_e6 v_e7 v_cols v_by) (γ : Type) (K : List Ent × Sig → Option γ) : evFK (cfg p) (T_law14_TypesMoved x_law14_large x_law14_lives x_ref10_Large x_law14_TypesMoved_L0 x_types_Move x_types_Type) (L_law14_TypesMoved x_law14_large x_law14_lives x_ref10_Large x_law14_TypesMoved_L0 x_types_Move x_types_Type) 7 [agg [(int i64 v_e0, Own.none), (int i64 v_e1, Own.none), (int i64 v_e2, Own.none), (int i64 v_e3, Own.none), (str v_e4, Own.none), (str v_e5, Own.none), (str v_e6, Own.none), (sl v_e7, Own.none)], dat (sl v_cols), dat (int i64 v_by)] [] γ K = Sp.B_law14_TypesMoved x_law14_large x_law14_lives x_ref10_Large x_law14_TypesMoved_L0 x_types_Move x_types_Type v_e0 v_e1 v_e2 v_e3 v_e4 v_e5 v_e6 v_e7 v_cols v_by γ (fun r0 => K ([(dat (Dat.bool r0), Own.none)], [])) := by kernel_rfl
def Sp.law14_TypesMoved : Ty_law14_TypesMoved := Sp.B_law14_TypesMoved Sp.law14_large Sp.law14_lives Sp.ref10_Large (Sp.law14_TypesMoved_L0 fuel) Sp.types_Move Sp.types_Type
theorem E_law14_TypesMoved (p : Par) {F : Ent3} (hF : EntOk (cfg p) 7 F) : EntOk (cfg p) 7 (P_law14_TypesMoved Sp.law14_TypesMoved F) := by
  intro a s γ K q h
  unfold P_law14_TypesMoved at h
  split at h
  · exact body_ok (tab_loop (tab_call (tab_call (tab_call (tab_call (tab_call (tab_nil _) (E_law14_large p (ent_none _ _))) (E_law14_lives p (ent_none _ _))) (E_ref10_Large p (ent_none _ _))) (E_types_Move p (ent_none _ _))) (E_types_Type p (ent_none _ _))) (E_law14_TypesMoved_L0 p fuel (entL_none _ _ _))) rfl ((e_law14_TypesMoved p _ _ _ _ _ _ _ _ _ _ _ _ _ _ _ _ _ _).trans h)
  · exact hF _ _ _ _ _ h
end
end Go.Proofs.YtppilomaljgkoaaGreatDoor

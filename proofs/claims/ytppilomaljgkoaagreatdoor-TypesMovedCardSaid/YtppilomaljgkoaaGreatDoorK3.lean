/- What the functions of this program compute, printed by a program. -/
import Derived.Test.YtppilomaljgkoaaGreatDoorKQ
import Derived.KernelRfl
set_option linter.unusedVariables false
namespace Go.Proofs.YtppilomaljgkoaaGreatDoor
open Go Go.Aev Go.RowKit
open Go.Aev.AVal (dat agg)
open Go.Aev.Dat (int str sl)
open Go.IntKind (i64)
noncomputable section
abbrev Ty_law14_large : Type 1 := List (List Dat) → (γ : Type) → (Bool → Option γ) → Option γ
def P_law14_large (X : Ty_law14_large) (F : Ent3) : Ent3 := fun a s γ K => match a, s with
  | [dat (sl v_cols)], [] => X v_cols γ (fun r0 => K ([(dat (Dat.bool r0), Own.none)], []))
  | a, s => F a s γ K
def T_law14_large : CallK := noneK
def L_law14_large : LoopK := noneL
def Sp.B_law14_large (v_cols : List (List Dat)) (γ : Type) (K : Bool → Option γ) : Option γ := K (decide (60 < Int.ofNat (List.length v_cols)))
theorem e_law14_large (p : Par) (v_cols) (γ : Type) (K : List Ent × Sig → Option γ) : evFK (cfg p) (T_law14_large) (L_law14_large) 8 [dat (sl v_cols)] [] γ K = Sp.B_law14_large v_cols γ (fun r0 => K ([(dat (Dat.bool r0), Own.none)], [])) := by kernel_rfl
def Sp.law14_large : Ty_law14_large := Sp.B_law14_large 
theorem E_law14_large (p : Par) {F : Ent3} (hF : EntOk (cfg p) 8 F) : EntOk (cfg p) 8 (P_law14_large Sp.law14_large F) := by
  intro a s γ K q h
  unfold P_law14_large at h
  split at h
  · exact body_ok (tab_nil _) rfl ((e_law14_large p _ _ _).trans h)
  · exact hF _ _ _ _ _ h
abbrev Ty_law14_Two : Type 1 := (γ : Type) → (List (List Dat) → Option γ) → Option γ
def P_law14_Two (X : Ty_law14_Two) (F : Ent3) : Ent3 := fun a s γ K => match a, s with
  | [], [] => X γ (fun r0 => K ([(dat (sl r0), Own.none)], []))
  | a, s => F a s γ K
def T_law14_Two : CallK := noneK
def L_law14_Two : LoopK := noneL
def Sp.B_law14_Two (γ : Type) (K : List (List Dat) → Option γ) : Option γ := K [[str (bs [116]), str (bs [97]), int i64 2], [str (bs [116]), str (bs [98]), int i64 3], [str (bs [117]), str (bs [97]), int i64 1]]
theorem e_law14_Two (p : Par)  (γ : Type) (K : List Ent × Sig → Option γ) : evFK (cfg p) (T_law14_Two) (L_law14_Two) 23 [] [] γ K = Sp.B_law14_Two γ (fun r0 => K ([(dat (sl r0), Own.none)], [])) := by kernel_rfl
def Sp.law14_Two : Ty_law14_Two := Sp.B_law14_Two 
theorem E_law14_Two (p : Par) {F : Ent3} (hF : EntOk (cfg p) 23 F) : EntOk (cfg p) 23 (P_law14_Two Sp.law14_Two F) := by
  intro a s γ K q h
  unfold P_law14_Two at h
  split at h
  · exact body_ok (tab_nil _) rfl ((e_law14_Two p _ _).trans h)
  · exact hF _ _ _ _ _ h
abbrev Ty_types_Find_1 : Type 1 := ByteArray → ByteArray → Int → ByteArray → ByteArray → (γ : Type) → (Bool → ByteArray → ByteArray → Option γ) → Option γ
def P_types_Find_1 (X : Ty_types_Find_1) (F : Ent3) : Ent3 := fun a s γ K => match a, s with
  | [agg [(str v_c0, Own.none), (str v_c1, Own.none), (int i64 v_c2, Own.none)], AVal.ref 1 0, AVal.ref 0 0], [Box.cells [dat (str b0)], Box.cells [dat (str b1)]] => X v_c0 v_c1 v_c2 b0 b1 γ (fun r0 r1 r2 => K ([(dat (Dat.bool r0), Own.none)], [Box.cells [dat (str r1)], Box.cells [dat (str r2)]]))
  | a, s => F a s γ K
def T_types_Find_1 : CallK := noneK
def L_types_Find_1 : LoopK := noneL
def Sp.B_types_Find_1 (v_c0 v_c1 : ByteArray) (v_c2 : Int) (b0 b1 : ByteArray) (γ : Type) (K : Bool → ByteArray → ByteArray → Option γ) : Option γ := bif decide (v_c1 = b1) then bif decide (b0 = bs []) then K true b0 b1 else K (decide (v_c0 = b0)) b0 b1 else K false b0 b1
theorem e_types_Find_1 (p : Par) (v_c0 v_c1 v_c2 b0 b1) (γ : Type) (K : List Ent × Sig → Option γ) : evFK (cfg p) (T_types_Find_1) (L_types_Find_1) 26 [agg [(str v_c0, Own.none), (str v_c1, Own.none), (int i64 v_c2, Own.none)], AVal.ref 1 0, AVal.ref 0 0] [Box.cells [dat (str b0)], Box.cells [dat (str b1)]] γ K = Sp.B_types_Find_1 v_c0 v_c1 v_c2 b0 b1 γ (fun r0 r1 r2 => K ([(dat (Dat.bool r0), Own.none)], [Box.cells [dat (str r1)], Box.cells [dat (str r2)]])) := by kernel_rfl
def Sp.types_Find_1 : Ty_types_Find_1 := Sp.B_types_Find_1 
theorem E_types_Find_1 (p : Par) {F : Ent3} (hF : EntOk (cfg p) 26 F) : EntOk (cfg p) 26 (P_types_Find_1 Sp.types_Find_1 F) := by
  intro a s γ K q h
  unfold P_types_Find_1 at h
  split at h
  · exact body_ok (tab_nil _) rfl ((e_types_Find_1 p _ _ _ _ _ _ _).trans h)
  · exact hF _ _ _ _ _ h
abbrev Ty_slices_IndexFunc_api_Column_api_Column_L0 : Type 1 := List (List Dat) → Int → Int → Int → ByteArray → ByteArray → (γ : Type) → (Ex → Int → Int → ByteArray → ByteArray → Option γ) → Option γ
def P_slices_IndexFunc_api_Column_api_Column_L0 (X : Ty_slices_IndexFunc_api_Column_api_Column_L0) (F : Loop3) : Loop3 := fun a s γ K => match a, s with
  | [dat (sl v_s), AVal.clo (Fn.func 26) [] [AVal.ref 1 0, AVal.ref 0 0], dat (int i64 v_)], ([dat (int i64 v__1), dat (int i64 v__2)], [Box.cells [dat (str b0)], Box.cells [dat (str b1)]]) => X v_s v_ v__1 v__2 b0 b1 γ (fun e x0 x1 x2 x3 => K (e, ([dat (int i64 x0), dat (int i64 x1)], [Box.cells [dat (str x2)], Box.cells [dat (str x3)]])))
  | a, s => F a s γ K
def T_slices_IndexFunc_api_Column_api_Column_L0 (x_types_Find_1 : Ty_types_Find_1) : CallK := (addK noneK 26 (P_types_Find_1 x_types_Find_1 none3))
def L_slices_IndexFunc_api_Column_api_Column_L0 (x_types_Find_1 : Ty_types_Find_1) : LoopK := noneL
def Sp.B_slices_IndexFunc_api_Column_api_Column_L0 (x_slices_IndexFunc_api_Column_api_Column_L0 : Ty_slices_IndexFunc_api_Column_api_Column_L0) (x_types_Find_1 : Ty_types_Find_1) (v_s : List (List Dat)) (v_ v__1 v__2 : Int) (b0 b1 : ByteArray) (γ : Type) (K : Ex → Int → Int → ByteArray → ByteArray → Option γ) : Option γ := bif decide (v__2 < v_) then elemAt v_s v__2 fun z8 => bif List.length z8 == 3 then cellAt z8 0 fun z9 => asStr z9 fun z10 => cellAt z8 1 fun z11 => asStr z11 fun z12 => cellAt z8 2 fun z13 => Aev.asInt i64 z13 fun z14 => x_types_Find_1 z10 z12 z14 b0 b1 γ fun z15 z16 z17 => bif z15 then K Ex.ret v__2 v__2 z16 z17 else x_slices_IndexFunc_api_Column_api_Column_L0 v_s v_ v__1 (IntKind.wrap i64 (v__2 + 1)) z16 z17 γ K else none else K (Ex.exit 0) v__1 v__2 b0 b1
theorem e_slices_IndexFunc_api_Column_api_Column_L0 (p : Par) (x_slices_IndexFunc_api_Column_api_Column_L0 : Ty_slices_IndexFunc_api_Column_api_Column_L0) (x_types_Find_1 v_s v_ v__1 v__2 b0 b1) (γ : Type) (K : Ex × Vars → Option γ) : roundK (cfg p) (T_slices_IndexFunc_api_Column_api_Column_L0 x_types_Find_1) (L_slices_IndexFunc_api_Column_api_Column_L0 x_types_Find_1) 27 0 [dat (sl v_s), AVal.clo (Fn.func 26) [] [AVal.ref 1 0, AVal.ref 0 0], dat (int i64 v_)] ([dat (int i64 v__1), dat (int i64 v__2)], [Box.cells [dat (str b0)], Box.cells [dat (str b1)]]) γ (contL (fun v => P_slices_IndexFunc_api_Column_api_Column_L0 x_slices_IndexFunc_api_Column_api_Column_L0 noneL3 [dat (sl v_s), AVal.clo (Fn.func 26) [] [AVal.ref 1 0, AVal.ref 0 0], dat (int i64 v_)] v γ K) K) = Sp.B_slices_IndexFunc_api_Column_api_Column_L0 x_slices_IndexFunc_api_Column_api_Column_L0 x_types_Find_1 v_s v_ v__1 v__2 b0 b1 γ (fun e x0 x1 x2 x3 => K (e, ([dat (int i64 x0), dat (int i64 x1)], [Box.cells [dat (str x2)], Box.cells [dat (str x3)]]))) := by kernel_rfl
def Sp.slices_IndexFunc_api_Column_api_Column_L0 : Nat → Ty_slices_IndexFunc_api_Column_api_Column_L0
  | 0 => fun _ _ _ _ _ _ _ _ => none
  | n + 1 => Sp.B_slices_IndexFunc_api_Column_api_Column_L0 (Sp.slices_IndexFunc_api_Column_api_Column_L0 n) Sp.types_Find_1
theorem E0_slices_IndexFunc_api_Column_api_Column_L0 (p : Par)   : ∀ n, EntOkL (cfg p) 27 0 (P_slices_IndexFunc_api_Column_api_Column_L0 (Sp.slices_IndexFunc_api_Column_api_Column_L0 n) noneL3) := entL_rounds (tab_call (tab_nil _) (E_types_Find_1 p (ent_none _ _))) (by kernel_rfl) (fun c v γ K => by unfold P_slices_IndexFunc_api_Column_api_Column_L0; split <;> rfl) fun n c v γ K q h => by
  unfold P_slices_IndexFunc_api_Column_api_Column_L0 at h
  split at h
  · exact (e_slices_IndexFunc_api_Column_api_Column_L0 p _ _ _ _ _ _ _ _ _ _).trans h
  · cases h
theorem E_slices_IndexFunc_api_Column_api_Column_L0 (p : Par)   (n : Nat) {F : Loop3} (hF : EntOkL (cfg p) 27 0 F) : EntOkL (cfg p) 27 0 (P_slices_IndexFunc_api_Column_api_Column_L0 (Sp.slices_IndexFunc_api_Column_api_Column_L0 n) F) := by
  intro c v γ K q h
  unfold P_slices_IndexFunc_api_Column_api_Column_L0 at h
  split at h
  · exact E0_slices_IndexFunc_api_Column_api_Column_L0 p n _ _ _ _ _ h
  · exact hF _ _ _ _ _ h
abbrev Ty_slices_IndexFunc_api_Column_api_Column : Type 1 := List (List Dat) → ByteArray → ByteArray → (γ : Type) → (Int → ByteArray → ByteArray → Option γ) → Option γ
def P_slices_IndexFunc_api_Column_api_Column (X : Ty_slices_IndexFunc_api_Column_api_Column) (F : Ent3) : Ent3 := fun a s γ K => match a, s with
  | [dat (sl v_s), AVal.clo (Fn.func 26) [] [AVal.ref 1 0, AVal.ref 0 0]], [Box.cells [dat (str b0)], Box.cells [dat (str b1)]] => X v_s b0 b1 γ (fun r0 r1 r2 => K ([(dat (int i64 r0), Own.none)], [Box.cells [dat (str r1)], Box.cells [dat (str r2)]]))
  | a, s => F a s γ K
def T_slices_IndexFunc_api_Column_api_Column (x_slices_IndexFunc_api_Column_api_Column_L0 : Ty_slices_IndexFunc_api_Column_api_Column_L0) : CallK := noneK
def L_slices_IndexFunc_api_Column_api_Column (x_slices_IndexFunc_api_Column_api_Column_L0 : Ty_slices_IndexFunc_api_Column_api_Column_L0) : LoopK := (addL noneL 27 0 (P_slices_IndexFunc_api_Column_api_Column_L0 x_slices_IndexFunc_api_Column_api_Column_L0 noneL3))
def Sp.B_slices_IndexFunc_api_Column_api_Column (x_slices_IndexFunc_api_Column_api_Column_L0 : Ty_slices_IndexFunc_api_Column_api_Column_L0) (v_s : List (List Dat)) (b0 b1 : ByteArray) (γ : Type) (K : Int → ByteArray → ByteArray → Option γ) : Option γ := x_slices_IndexFunc_api_Column_api_Column_L0 v_s (Int.ofNat (List.length v_s)) 0 0 b0 b1 γ fun z5 z6 z7 z8 z9 => bif Ex.isExit z5 0 then K (-1) z8 z9 else bif Ex.isRet z5 then K z6 z8 z9 else none
theorem e_slices_IndexFunc_api_Column_api_Column (p : Par) (x_slices_IndexFunc_api_Column_api_Column_L0 v_s b0 b1) (γ : Type) (K : List Ent × Sig → Option γ) : evFK (cfg p) (T_slices_IndexFunc_api_Column_api_Column x_slices_IndexFunc_api_Column_api_Column_L0) (L_slices_IndexFunc_api_Column_api_Column x_slices_IndexFunc_api_Column_api_Column_L0) 27 [dat (sl v_s), AVal.clo (Fn.func 26) [] [AVal.ref 1 0, AVal.ref 0 0]] [Box.cells [dat (str b0)], Box.cells [dat (str b1)]] γ K = Sp.B_slices_IndexFunc_api_Column_api_Column x_slices_IndexFunc_api_Column_api_Column_L0 v_s b0 b1 γ (fun r0 r1 r2 => K ([(dat (int i64 r0), Own.none)], [Box.cells [dat (str r1)], Box.cells [dat (str r2)]])) := by kernel_rfl
def Sp.slices_IndexFunc_api_Column_api_Column : Ty_slices_IndexFunc_api_Column_api_Column := Sp.B_slices_IndexFunc_api_Column_api_Column (Sp.slices_IndexFunc_api_Column_api_Column_L0 fuel)
theorem E_slices_IndexFunc_api_Column_api_Column (p : Par) {F : Ent3} (hF : EntOk (cfg p) 27 F) : EntOk (cfg p) 27 (P_slices_IndexFunc_api_Column_api_Column Sp.slices_IndexFunc_api_Column_api_Column F) := by
  intro a s γ K q h
  unfold P_slices_IndexFunc_api_Column_api_Column at h
  split at h
  · exact body_ok (tab_loop (tab_nil _) (E_slices_IndexFunc_api_Column_api_Column_L0 p fuel (entL_none _ _ _))) rfl ((e_slices_IndexFunc_api_Column_api_Column p _ _ _ _ _ _).trans h)
  · exact hF _ _ _ _ _ h
abbrev Ty_slices_ContainsFunc_api_Column_api_Column : Type 1 := List (List Dat) → ByteArray → ByteArray → (γ : Type) → (Bool → ByteArray → ByteArray → Option γ) → Option γ
def P_slices_ContainsFunc_api_Column_api_Column (X : Ty_slices_ContainsFunc_api_Column_api_Column) (F : Ent3) : Ent3 := fun a s γ K => match a, s with
  | [dat (sl v_s), AVal.clo (Fn.func 26) [] [AVal.ref 1 0, AVal.ref 0 0]], [Box.cells [dat (str b0)], Box.cells [dat (str b1)]] => X v_s b0 b1 γ (fun r0 r1 r2 => K ([(dat (Dat.bool r0), Own.none)], [Box.cells [dat (str r1)], Box.cells [dat (str r2)]]))
  | a, s => F a s γ K
def T_slices_ContainsFunc_api_Column_api_Column (x_slices_IndexFunc_api_Column_api_Column : Ty_slices_IndexFunc_api_Column_api_Column) : CallK := (addK noneK 27 (P_slices_IndexFunc_api_Column_api_Column x_slices_IndexFunc_api_Column_api_Column none3))
def L_slices_ContainsFunc_api_Column_api_Column (x_slices_IndexFunc_api_Column_api_Column : Ty_slices_IndexFunc_api_Column_api_Column) : LoopK := noneL
def Sp.B_slices_ContainsFunc_api_Column_api_Column (x_slices_IndexFunc_api_Column_api_Column : Ty_slices_IndexFunc_api_Column_api_Column) (v_s : List (List Dat)) (b0 b1 : ByteArray) (γ : Type) (K : Bool → ByteArray → ByteArray → Option γ) : Option γ := x_slices_IndexFunc_api_Column_api_Column v_s b0 b1 γ fun z5 z6 z7 => K (decide (0 ≤ z5)) z6 z7
theorem e_slices_ContainsFunc_api_Column_api_Column (p : Par) (x_slices_IndexFunc_api_Column_api_Column v_s b0 b1) (γ : Type) (K : List Ent × Sig → Option γ) : evFK (cfg p) (T_slices_ContainsFunc_api_Column_api_Column x_slices_IndexFunc_api_Column_api_Column) (L_slices_ContainsFunc_api_Column_api_Column x_slices_IndexFunc_api_Column_api_Column) 28 [dat (sl v_s), AVal.clo (Fn.func 26) [] [AVal.ref 1 0, AVal.ref 0 0]] [Box.cells [dat (str b0)], Box.cells [dat (str b1)]] γ K = Sp.B_slices_ContainsFunc_api_Column_api_Column x_slices_IndexFunc_api_Column_api_Column v_s b0 b1 γ (fun r0 r1 r2 => K ([(dat (Dat.bool r0), Own.none)], [Box.cells [dat (str r1)], Box.cells [dat (str r2)]])) := by kernel_rfl
def Sp.slices_ContainsFunc_api_Column_api_Column : Ty_slices_ContainsFunc_api_Column_api_Column := Sp.B_slices_ContainsFunc_api_Column_api_Column Sp.slices_IndexFunc_api_Column_api_Column
theorem E_slices_ContainsFunc_api_Column_api_Column (p : Par) {F : Ent3} (hF : EntOk (cfg p) 28 F) : EntOk (cfg p) 28 (P_slices_ContainsFunc_api_Column_api_Column Sp.slices_ContainsFunc_api_Column_api_Column F) := by
  intro a s γ K q h
  unfold P_slices_ContainsFunc_api_Column_api_Column at h
  split at h
  · exact body_ok (tab_call (tab_nil _) (E_slices_IndexFunc_api_Column_api_Column p (ent_none _ _))) rfl ((e_slices_ContainsFunc_api_Column_api_Column p _ _ _ _ _ _).trans h)
  · exact hF _ _ _ _ _ h
abbrev Ty_types_Find : Type 1 := List (List Dat) → ByteArray → ByteArray → (γ : Type) → (Int → Int → Option γ) → Option γ
def P_types_Find (X : Ty_types_Find) (F : Ent3) : Ent3 := fun a s γ K => match a, s with
  | [dat (sl v_cols), dat (str v_tab), dat (str v_col)], [] => X v_cols v_tab v_col γ (fun r0 r1 => K ([(dat (int i64 r0), Own.none), (dat (int i64 r1), Own.none)], []))
  | a, s => F a s γ K
def T_types_Find (x_slices_IndexFunc_api_Column_api_Column : Ty_slices_IndexFunc_api_Column_api_Column) (x_slices_ContainsFunc_api_Column_api_Column : Ty_slices_ContainsFunc_api_Column_api_Column) : CallK := (addK (addK noneK 27 (P_slices_IndexFunc_api_Column_api_Column x_slices_IndexFunc_api_Column_api_Column none3)) 28 (P_slices_ContainsFunc_api_Column_api_Column x_slices_ContainsFunc_api_Column_api_Column none3))
def L_types_Find (x_slices_IndexFunc_api_Column_api_Column : Ty_slices_IndexFunc_api_Column_api_Column) (x_slices_ContainsFunc_api_Column_api_Column : Ty_slices_ContainsFunc_api_Column_api_Column) : LoopK := noneL
def Sp.B_types_Find (x_slices_IndexFunc_api_Column_api_Column : Ty_slices_IndexFunc_api_Column_api_Column) (x_slices_ContainsFunc_api_Column_api_Column : Ty_slices_ContainsFunc_api_Column_api_Column) (v_cols : List (List Dat)) (v_tab v_col : ByteArray) (γ : Type) (K : Int → Int → Option γ) : Option γ := x_slices_IndexFunc_api_Column_api_Column v_cols v_tab v_col γ fun z5 z6 z7 => bif decide (z5 < 0) then K 0 140 else bif decide (32 ≤ z5) then K 0 140 else bif decide (0 ≤ IntKind.wrap i64 (z5 + 1)) && decide (IntKind.wrap i64 (z5 + 1) ≤ Int.ofNat (List.length v_cols)) && decide (Int.ofNat (List.length v_cols) ≤ Int.ofNat (List.length v_cols)) && true && sized v_cols 3 then x_slices_ContainsFunc_api_Column_api_Column (List.drop (Int.toNat (IntKind.wrap i64 (z5 + 1))) (List.take (Int.toNat (Int.ofNat (List.length v_cols))) v_cols)) z6 z7 γ fun z8 z9 z10 => bif z8 then K 0 140 else K z5 0 else none
theorem e_types_Find (p : Par) (x_slices_IndexFunc_api_Column_api_Column x_slices_ContainsFunc_api_Column_api_Column v_cols v_tab v_col) (γ : Type) (K : List Ent × Sig → Option γ) : evFK (cfg p) (T_types_Find x_slices_IndexFunc_api_Column_api_Column x_slices_ContainsFunc_api_Column_api_Column) (L_types_Find x_slices_IndexFunc_api_Column_api_Column x_slices_ContainsFunc_api_Column_api_Column) 10 [dat (sl v_cols), dat (str v_tab), dat (str v_col)] [] γ K = Sp.B_types_Find x_slices_IndexFunc_api_Column_api_Column x_slices_ContainsFunc_api_Column_api_Column v_cols v_tab v_col γ (fun r0 r1 => K ([(dat (int i64 r0), Own.none), (dat (int i64 r1), Own.none)], [])) := by kernel_rfl
def Sp.types_Find : Ty_types_Find := Sp.B_types_Find Sp.slices_IndexFunc_api_Column_api_Column Sp.slices_ContainsFunc_api_Column_api_Column
theorem E_types_Find (p : Par) {F : Ent3} (hF : EntOk (cfg p) 10 F) : EntOk (cfg p) 10 (P_types_Find Sp.types_Find F) := by
  intro a s γ K q h
  unfold P_types_Find at h
  split at h
  · exact body_ok (tab_call (tab_call (tab_nil _) (E_slices_IndexFunc_api_Column_api_Column p (ent_none _ _))) (E_slices_ContainsFunc_api_Column_api_Column p (ent_none _ _))) rfl ((e_types_Find p _ _ _ _ _ _ _).trans h)
  · exact hF _ _ _ _ _ h
abbrev Ty_ref10_Column : Type 1 := ByteArray → ByteArray → (γ : Type) → (Int → Int → Int → Int → ByteArray → ByteArray → ByteArray → List (List Dat) → Option γ) → Option γ
def P_ref10_Column (X : Ty_ref10_Column) (F : Ent3) : Ent3 := fun a s γ K => match a, s with
  | [dat (str v_tab), dat (str v_col)], [] => X v_tab v_col γ (fun r0 r1 r2 r3 r4 r5 r6 r7 => K ([(agg [(int i64 r0, Own.none), (int i64 r1, Own.none), (int i64 r2, Own.none), (int i64 r3, Own.none), (str r4, Own.none), (str r5, Own.none), (str r6, Own.none), (sl r7, Own.none)], Own.none)], []))
  | a, s => F a s γ K
def T_ref10_Column : CallK := noneK
def L_ref10_Column : LoopK := noneL
def Sp.B_ref10_Column (v_tab v_col : ByteArray) (γ : Type) (K : Int → Int → Int → Int → ByteArray → ByteArray → ByteArray → List (List Dat) → Option γ) : Option γ := K 2 0 0 0 (bs []) v_tab v_col []
theorem e_ref10_Column (p : Par) (v_tab v_col) (γ : Type) (K : List Ent × Sig → Option γ) : evFK (cfg p) (T_ref10_Column) (L_ref10_Column) 24 [dat (str v_tab), dat (str v_col)] [] γ K = Sp.B_ref10_Column v_tab v_col γ (fun r0 r1 r2 r3 r4 r5 r6 r7 => K ([(agg [(int i64 r0, Own.none), (int i64 r1, Own.none), (int i64 r2, Own.none), (int i64 r3, Own.none), (str r4, Own.none), (str r5, Own.none), (str r6, Own.none), (sl r7, Own.none)], Own.none)], [])) := by kernel_rfl
def Sp.ref10_Column : Ty_ref10_Column := Sp.B_ref10_Column 
theorem E_ref10_Column (p : Par) {F : Ent3} (hF : EntOk (cfg p) 24 F) : EntOk (cfg p) 24 (P_ref10_Column Sp.ref10_Column F) := by
  intro a s γ K q h
  unfold P_ref10_Column at h
  split at h
  · exact body_ok (tab_nil _) rfl ((e_ref10_Column p _ _ _ _).trans h)
  · exact hF _ _ _ _ _ h
abbrev Ty_ref10_Op : Type 1 := Int → List (List Dat) → (γ : Type) → (Int → Int → Int → Int → ByteArray → ByteArray → ByteArray → List (List Dat) → Option γ) → Option γ
def P_ref10_Op (X : Ty_ref10_Op) (F : Ent3) : Ent3 := fun a s γ K => match a, s with
  | [dat (int i64 v_n), dat (sl v_l)], [] => X v_n v_l γ (fun r0 r1 r2 r3 r4 r5 r6 r7 => K ([(agg [(int i64 r0, Own.none), (int i64 r1, Own.none), (int i64 r2, Own.none), (int i64 r3, Own.none), (str r4, Own.none), (str r5, Own.none), (str r6, Own.none), (sl r7, Own.none)], Own.none)], []))
  | a, s => F a s γ K
def T_ref10_Op : CallK := noneK
def L_ref10_Op : LoopK := noneL
def Sp.B_ref10_Op (v_n : Int) (v_l : List (List Dat)) (γ : Type) (K : Int → Int → Int → Int → ByteArray → ByteArray → ByteArray → List (List Dat) → Option γ) : Option γ := K 3 v_n 0 0 (bs []) (bs []) (bs []) v_l
theorem e_ref10_Op (p : Par) (v_n v_l) (γ : Type) (K : List Ent × Sig → Option γ) : evFK (cfg p) (T_ref10_Op) (L_ref10_Op) 25 [dat (int i64 v_n), dat (sl v_l)] [] γ K = Sp.B_ref10_Op v_n v_l γ (fun r0 r1 r2 r3 r4 r5 r6 r7 => K ([(agg [(int i64 r0, Own.none), (int i64 r1, Own.none), (int i64 r2, Own.none), (int i64 r3, Own.none), (str r4, Own.none), (str r5, Own.none), (str r6, Own.none), (sl r7, Own.none)], Own.none)], [])) := by kernel_rfl
def Sp.ref10_Op : Ty_ref10_Op := Sp.B_ref10_Op 
theorem E_ref10_Op (p : Par) {F : Ent3} (hF : EntOk (cfg p) 25 F) : EntOk (cfg p) 25 (P_ref10_Op Sp.ref10_Op F) := by
  intro a s γ K q h
  unfold P_ref10_Op at h
  split at h
  · exact body_ok (tab_nil _) rfl ((e_ref10_Op p _ _ _ _).trans h)
  · exact hF _ _ _ _ _ h
abbrev Ty_value_Check : Type 1 := Int → Int → ByteArray → (γ : Type) → (Int → Option γ) → Option γ
def P_value_Check (X : Ty_value_Check) (F : Ent3) : Ent3 := fun a s γ K => match a, s with
  | [agg [(int i64 v_v0, Own.none), (int i64 v_v1, Own.none), (str v_v2, Own.none)]], [] => X v_v0 v_v1 v_v2 γ (fun r0 => K ([(dat (int i64 r0), Own.none)], []))
  | a, s => F a s γ K
def T_value_Check : CallK := noneK
def L_value_Check : LoopK := noneL
def Sp.B_value_Check (v_v0 v_v1 : Int) (v_v2 : ByteArray) (γ : Type) (K : Int → Option γ) : Option γ := bif decide (v_v0 = 0) then bif !(decide (v_v0 = 0) && (decide (v_v1 = 0) && (decide (v_v2 = bs []) && true))) then K 10 else K 0 else bif decide (v_v0 = 1) then bif decide (Int.fdiv v_v1 2 = 0) then bif !decide (v_v2 = bs []) then K 10 else K 0 else K 10 else bif decide (v_v0 = 2) then bif decide (-9007199254740991 ≤ v_v1) then bif decide (v_v1 ≤ 9007199254740991) then bif !decide (v_v2 = bs []) then K 10 else K 0 else K 10 else K 10 else bif decide (v_v0 = 3) then bif decide (v_v1 = 0) then bif !decide (Int.ofNat (ByteArray.size v_v2) ≤ 64) then K 10 else K 0 else K 10 else K 10
theorem e_value_Check (p : Par) (v_v0 v_v1 v_v2) (γ : Type) (K : List Ent × Sig → Option γ) : evFK (cfg p) (T_value_Check) (L_value_Check) 102 [agg [(int i64 v_v0, Own.none), (int i64 v_v1, Own.none), (str v_v2, Own.none)]] [] γ K = Sp.B_value_Check v_v0 v_v1 v_v2 γ (fun r0 => K ([(dat (int i64 r0), Own.none)], [])) := by kernel_rfl
def Sp.value_Check : Ty_value_Check := Sp.B_value_Check 
theorem E_value_Check (p : Par) {F : Ent3} (hF : EntOk (cfg p) 102 F) : EntOk (cfg p) 102 (P_value_Check Sp.value_Check F) := by
  intro a s γ K q h
  unfold P_value_Check at h
  split at h
  · exact body_ok (tab_nil _) rfl ((e_value_Check p _ _ _ _ _).trans h)
  · exact hF _ _ _ _ _ h
abbrev Ty_expr_literal : Type 1 := Int → Int → Int → Int → ByteArray → ByteArray → ByteArray → List (List Dat) → (γ : Type) → (Bool → Option γ) → Option γ
def P_expr_literal (X : Ty_expr_literal) (F : Ent3) : Ent3 := fun a s γ K => match a, s with
  | [agg [(int i64 v_e0, Own.none), (int i64 v_e1, Own.none), (int i64 v_e2, Own.none), (int i64 v_e3, Own.none), (str v_e4, Own.none), (str v_e5, Own.none), (str v_e6, Own.none), (sl v_e7, Own.none)]], [] => X v_e0 v_e1 v_e2 v_e3 v_e4 v_e5 v_e6 v_e7 γ (fun r0 => K ([(dat (Dat.bool r0), Own.none)], []))
  | a, s => F a s γ K
def T_expr_literal (x_value_Check : Ty_value_Check) : CallK := (addK noneK 102 (P_value_Check x_value_Check none3))
def L_expr_literal (x_value_Check : Ty_value_Check) : LoopK := noneL
def Sp.B_expr_literal (x_value_Check : Ty_value_Check) (v_e0 v_e1 v_e2 v_e3 : Int) (v_e4 v_e5 v_e6 : ByteArray) (v_e7 : List (List Dat)) (γ : Type) (K : Bool → Option γ) : Option γ := x_value_Check v_e2 v_e3 v_e4 γ fun z10 => bif decide (z10 = 0) then bif !decide (v_e2 = 2) then bif decide (v_e1 = 0) then bif decide (v_e5 = bs []) then bif decide (v_e6 = bs []) then K (decide (Int.ofNat (List.length v_e7) = 0)) else K false else K false else K false else bif decide (0 ≤ v_e3) then bif decide (v_e1 = 0) then bif decide (v_e5 = bs []) then bif decide (v_e6 = bs []) then K (decide (Int.ofNat (List.length v_e7) = 0)) else K false else K false else K false else K false else K false
theorem e_expr_literal (p : Par) (x_value_Check v_e0 v_e1 v_e2 v_e3 v_e4 v_e5 v_e6 v_e7) (γ : Type) (K : List Ent × Sig → Option γ) : evFK (cfg p) (T_expr_literal x_value_Check) (L_expr_literal x_value_Check) 94 [agg [(int i64 v_e0, Own.none), (int i64 v_e1, Own.none), (int i64 v_e2, Own.none), (int i64 v_e3, Own.none), (str v_e4, Own.none), (str v_e5, Own.none), (str v_e6, Own.none), (sl v_e7, Own.none)]] [] γ K = Sp.B_expr_literal x_value_Check v_e0 v_e1 v_e2 v_e3 v_e4 v_e5 v_e6 v_e7 γ (fun r0 => K ([(dat (Dat.bool r0), Own.none)], [])) := by kernel_rfl
def Sp.expr_literal : Ty_expr_literal := Sp.B_expr_literal Sp.value_Check
theorem E_expr_literal (p : Par) {F : Ent3} (hF : EntOk (cfg p) 94 F) : EntOk (cfg p) 94 (P_expr_literal Sp.expr_literal F) := by
  intro a s γ K q h
  unfold P_expr_literal at h
  split at h
  · exact body_ok (tab_call (tab_nil _) (E_value_Check p (ent_none _ _))) rfl ((e_expr_literal p _ _ _ _ _ _ _ _ _ _ _).trans h)
  · exact hF _ _ _ _ _ h
abbrev Ty_lex_letter : Type 1 := Int → (γ : Type) → (Bool → Option γ) → Option γ
def P_lex_letter (X : Ty_lex_letter) (F : Ent3) : Ent3 := fun a s γ K => match a, s with
  | [dat (Dat.int IntKind.u8 v_c)], [] => X v_c γ (fun r0 => K ([(dat (Dat.bool r0), Own.none)], []))
  | a, s => F a s γ K
def T_lex_letter : CallK := noneK
def L_lex_letter : LoopK := noneL
def Sp.B_lex_letter (v_c : Int) (γ : Type) (K : Bool → Option γ) : Option γ := bif decide (97 ≤ IntKind.wrap IntKind.u8 (Int.ofNat (BitVec.toFin (BitVec.ofInt (IntKind.bits IntKind.u8) v_c ||| BitVec.ofInt (IntKind.bits IntKind.u8) 32)).1)) then bif decide (IntKind.wrap IntKind.u8 (Int.ofNat (BitVec.toFin (BitVec.ofInt (IntKind.bits IntKind.u8) v_c ||| BitVec.ofInt (IntKind.bits IntKind.u8) 32)).1) ≤ 122) then K true else K (decide (v_c = 95)) else K (decide (v_c = 95))
theorem e_lex_letter (p : Par) (v_c) (γ : Type) (K : List Ent × Sig → Option γ) : evFK (cfg p) (T_lex_letter) (L_lex_letter) 104 [dat (Dat.int IntKind.u8 v_c)] [] γ K = Sp.B_lex_letter v_c γ (fun r0 => K ([(dat (Dat.bool r0), Own.none)], [])) := by kernel_rfl
def Sp.lex_letter : Ty_lex_letter := Sp.B_lex_letter 
theorem E_lex_letter (p : Par) {F : Ent3} (hF : EntOk (cfg p) 104 F) : EntOk (cfg p) 104 (P_lex_letter Sp.lex_letter F) := by
  intro a s γ K q h
  unfold P_lex_letter at h
  split at h
  · exact body_ok (tab_nil _) rfl ((e_lex_letter p _ _ _).trans h)
  · exact hF _ _ _ _ _ h
abbrev Ty_lex_scanner_left : Type 1 := ByteArray → Int → (γ : Type) → (Bool → ByteArray → Int → Option γ) → Option γ
def P_lex_scanner_left (X : Ty_lex_scanner_left) (F : Ent3) : Ent3 := fun a s γ K => match a, s with
  | [AVal.ref 0 0], [Box.cells [dat (str b0), dat (int i64 b1)]] => X b0 b1 γ (fun r0 r1 r2 => K ([(dat (Dat.bool r0), Own.none)], [Box.cells [dat (str r1), dat (int i64 r2)]]))
  | a, s => F a s γ K
def T_lex_scanner_left : CallK := noneK
def L_lex_scanner_left : LoopK := noneL
def Sp.B_lex_scanner_left (b0 : ByteArray) (b1 : Int) (γ : Type) (K : Bool → ByteArray → Int → Option γ) : Option γ := K (decide (b1 < Int.ofNat (ByteArray.size b0))) b0 b1
theorem e_lex_scanner_left (p : Par) (b0 b1) (γ : Type) (K : List Ent × Sig → Option γ) : evFK (cfg p) (T_lex_scanner_left) (L_lex_scanner_left) 107 [AVal.ref 0 0] [Box.cells [dat (str b0), dat (int i64 b1)]] γ K = Sp.B_lex_scanner_left b0 b1 γ (fun r0 r1 r2 => K ([(dat (Dat.bool r0), Own.none)], [Box.cells [dat (str r1), dat (int i64 r2)]])) := by kernel_rfl
def Sp.lex_scanner_left : Ty_lex_scanner_left := Sp.B_lex_scanner_left 
theorem E_lex_scanner_left (p : Par) {F : Ent3} (hF : EntOk (cfg p) 107 F) : EntOk (cfg p) 107 (P_lex_scanner_left Sp.lex_scanner_left F) := by
  intro a s γ K q h
  unfold P_lex_scanner_left at h
  split at h
  · exact body_ok (tab_nil _) rfl ((e_lex_scanner_left p _ _ _ _).trans h)
  · exact hF _ _ _ _ _ h
abbrev Ty_lex_digit : Type 1 := Int → (γ : Type) → (Bool → Option γ) → Option γ
def P_lex_digit (X : Ty_lex_digit) (F : Ent3) : Ent3 := fun a s γ K => match a, s with
  | [dat (Dat.int IntKind.u8 v_c)], [] => X v_c γ (fun r0 => K ([(dat (Dat.bool r0), Own.none)], []))
  | a, s => F a s γ K
def T_lex_digit : CallK := noneK
def L_lex_digit : LoopK := noneL
def Sp.B_lex_digit (v_c : Int) (γ : Type) (K : Bool → Option γ) : Option γ := bif decide (48 ≤ v_c) then K (decide (v_c ≤ 57)) else K false
theorem e_lex_digit (p : Par) (v_c) (γ : Type) (K : List Ent × Sig → Option γ) : evFK (cfg p) (T_lex_digit) (L_lex_digit) 108 [dat (Dat.int IntKind.u8 v_c)] [] γ K = Sp.B_lex_digit v_c γ (fun r0 => K ([(dat (Dat.bool r0), Own.none)], [])) := by kernel_rfl
def Sp.lex_digit : Ty_lex_digit := Sp.B_lex_digit 
theorem E_lex_digit (p : Par) {F : Ent3} (hF : EntOk (cfg p) 108 F) : EntOk (cfg p) 108 (P_lex_digit Sp.lex_digit F) := by
  intro a s γ K q h
  unfold P_lex_digit at h
  split at h
  · exact body_ok (tab_nil _) rfl ((e_lex_digit p _ _ _).trans h)
  · exact hF _ _ _ _ _ h
abbrev Ty_lex_scanner_run_L0 : Type 1 := Int → ByteArray → Int → (γ : Type) → (Ex → ByteArray → Int → Option γ) → Option γ
def P_lex_scanner_run_L0 (X : Ty_lex_scanner_run_L0) (F : Loop3) : Loop3 := fun a s γ K => match a, s with
  | [AVal.ref 0 0, dat (int i64 v_from)], ([], [Box.cells [dat (str b0), dat (int i64 b1)]]) => X v_from b0 b1 γ (fun e x0 x1 => K (e, ([], [Box.cells [dat (str x0), dat (int i64 x1)]])))
  | a, s => F a s γ K
def T_lex_scanner_run_L0 (x_lex_scanner_left : Ty_lex_scanner_left) (x_lex_letter : Ty_lex_letter) (x_lex_digit : Ty_lex_digit) : CallK := (addK (addK (addK noneK 107 (P_lex_scanner_left x_lex_scanner_left none3)) 104 (P_lex_letter x_lex_letter none3)) 108 (P_lex_digit x_lex_digit none3))
def L_lex_scanner_run_L0 (x_lex_scanner_left : Ty_lex_scanner_left) (x_lex_letter : Ty_lex_letter) (x_lex_digit : Ty_lex_digit) : LoopK := noneL
def Sp.B_lex_scanner_run_L0 (x_lex_scanner_run_L0 : Ty_lex_scanner_run_L0) (x_lex_scanner_left : Ty_lex_scanner_left) (x_lex_letter : Ty_lex_letter) (x_lex_digit : Ty_lex_digit) (v_from : Int) (b0 : ByteArray) (b1 : Int) (γ : Type) (K : Ex → ByteArray → Int → Option γ) : Option γ := x_lex_scanner_left b0 b1 γ fun z5 z6 z7 => bif z5 then byteAt z6 z7 fun z8 => x_lex_letter (Int.ofNat (BitVec.toFin (UInt8.toBitVec z8)).1) γ fun z9 => bif z9 then x_lex_scanner_run_L0 v_from z6 (IntKind.wrap i64 (z7 + 1)) γ K else byteAt z6 z7 fun z10 => x_lex_digit (Int.ofNat (BitVec.toFin (UInt8.toBitVec z10)).1) γ fun z11 => bif z11 then x_lex_scanner_run_L0 v_from z6 (IntKind.wrap i64 (z7 + 1)) γ K else K (Ex.exit 0) z6 z7 else K (Ex.exit 0) z6 z7
theorem e_lex_scanner_run_L0 (p : Par) (x_lex_scanner_run_L0 : Ty_lex_scanner_run_L0) (x_lex_scanner_left x_lex_letter x_lex_digit v_from b0 b1) (γ : Type) (K : Ex × Vars → Option γ) : roundK (cfg p) (T_lex_scanner_run_L0 x_lex_scanner_left x_lex_letter x_lex_digit) (L_lex_scanner_run_L0 x_lex_scanner_left x_lex_letter x_lex_digit) 105 0 [AVal.ref 0 0, dat (int i64 v_from)] ([], [Box.cells [dat (str b0), dat (int i64 b1)]]) γ (contL (fun v => P_lex_scanner_run_L0 x_lex_scanner_run_L0 noneL3 [AVal.ref 0 0, dat (int i64 v_from)] v γ K) K) = Sp.B_lex_scanner_run_L0 x_lex_scanner_run_L0 x_lex_scanner_left x_lex_letter x_lex_digit v_from b0 b1 γ (fun e x0 x1 => K (e, ([], [Box.cells [dat (str x0), dat (int i64 x1)]]))) := by kernel_rfl
def Sp.lex_scanner_run_L0 : Nat → Ty_lex_scanner_run_L0
  | 0 => fun _ _ _ _ _ => none
  | n + 1 => Sp.B_lex_scanner_run_L0 (Sp.lex_scanner_run_L0 n) Sp.lex_scanner_left Sp.lex_letter Sp.lex_digit
theorem E0_lex_scanner_run_L0 (p : Par)   : ∀ n, EntOkL (cfg p) 105 0 (P_lex_scanner_run_L0 (Sp.lex_scanner_run_L0 n) noneL3) := entL_rounds (tab_call (tab_call (tab_call (tab_nil _) (E_lex_scanner_left p (ent_none _ _))) (E_lex_letter p (ent_none _ _))) (E_lex_digit p (ent_none _ _))) (by kernel_rfl) (fun c v γ K => by unfold P_lex_scanner_run_L0; split <;> rfl) fun n c v γ K q h => by
  unfold P_lex_scanner_run_L0 at h
  split at h
  · exact (e_lex_scanner_run_L0 p _ _ _ _ _ _ _ _ _).trans h
  · cases h
theorem E_lex_scanner_run_L0 (p : Par)   (n : Nat) {F : Loop3} (hF : EntOkL (cfg p) 105 0 F) : EntOkL (cfg p) 105 0 (P_lex_scanner_run_L0 (Sp.lex_scanner_run_L0 n) F) := by
  intro c v γ K q h
  unfold P_lex_scanner_run_L0 at h
  split at h
  · exact E0_lex_scanner_run_L0 p n _ _ _ _ _ h
  · exact hF _ _ _ _ _ h
abbrev Ty_lex_scanner_run : Type 1 := ByteArray → Int → (γ : Type) → (ByteArray → ByteArray → Int → Option γ) → Option γ
def P_lex_scanner_run (X : Ty_lex_scanner_run) (F : Ent3) : Ent3 := fun a s γ K => match a, s with
  | [AVal.ref 0 0], [Box.cells [dat (str b0), dat (int i64 b1)]] => X b0 b1 γ (fun r0 r1 r2 => K ([(dat (str r0), Own.none)], [Box.cells [dat (str r1), dat (int i64 r2)]]))
  | a, s => F a s γ K
def T_lex_scanner_run (x_lex_scanner_run_L0 : Ty_lex_scanner_run_L0) : CallK := noneK
def L_lex_scanner_run (x_lex_scanner_run_L0 : Ty_lex_scanner_run_L0) : LoopK := (addL noneL 105 0 (P_lex_scanner_run_L0 x_lex_scanner_run_L0 noneL3))
def Sp.B_lex_scanner_run (x_lex_scanner_run_L0 : Ty_lex_scanner_run_L0) (b0 : ByteArray) (b1 : Int) (γ : Type) (K : ByteArray → ByteArray → Int → Option γ) : Option γ := x_lex_scanner_run_L0 b1 b0 b1 γ fun z4 z5 z6 => bif Ex.isExit z4 0 then bif decide (0 ≤ b1) && decide (b1 ≤ z6) && decide (z6 ≤ Int.ofNat (ByteArray.size z5)) && true then K (ByteArray.extract z5 (Int.toNat b1) (Int.toNat z6)) z5 z6 else none else bif Ex.isRet z4 then none else none
theorem e_lex_scanner_run (p : Par) (x_lex_scanner_run_L0 b0 b1) (γ : Type) (K : List Ent × Sig → Option γ) : evFK (cfg p) (T_lex_scanner_run x_lex_scanner_run_L0) (L_lex_scanner_run x_lex_scanner_run_L0) 105 [AVal.ref 0 0] [Box.cells [dat (str b0), dat (int i64 b1)]] γ K = Sp.B_lex_scanner_run x_lex_scanner_run_L0 b0 b1 γ (fun r0 r1 r2 => K ([(dat (str r0), Own.none)], [Box.cells [dat (str r1), dat (int i64 r2)]])) := by kernel_rfl
def Sp.lex_scanner_run : Ty_lex_scanner_run := Sp.B_lex_scanner_run (Sp.lex_scanner_run_L0 fuel)
theorem E_lex_scanner_run (p : Par) {F : Ent3} (hF : EntOk (cfg p) 105 F) : EntOk (cfg p) 105 (P_lex_scanner_run Sp.lex_scanner_run F) := by
  intro a s γ K q h
  unfold P_lex_scanner_run at h
  split at h
  · exact body_ok (tab_loop (tab_nil _) (E_lex_scanner_run_L0 p fuel (entL_none _ _ _))) rfl ((e_lex_scanner_run p _ _ _ _ _).trans h)
  · exact hF _ _ _ _ _ h
abbrev Ty_lex_Keys : Type 1 := (γ : Type) → (List (List Dat) → Option γ) → Option γ
def P_lex_Keys (X : Ty_lex_Keys) (F : Ent3) : Ent3 := fun a s γ K => match a, s with
  | [], [] => X γ (fun r0 => K ([(dat (sl r0), Own.none)], []))
  | a, s => F a s γ K
def T_lex_Keys (x_strings_Split : Ty_strings_Split) : CallK := (addK noneK 112 (P_strings_Split x_strings_Split none3))
def L_lex_Keys (x_strings_Split : Ty_strings_Split) : LoopK := noneL
def Sp.B_lex_Keys (x_strings_Split : Ty_strings_Split)  (γ : Type) (K : List (List Dat) → Option γ) : Option γ := x_strings_Split (bs [65, 76, 76, 32, 65, 78, 68, 32, 65, 78, 84, 73, 32, 65, 83, 32, 66, 89, 32, 67, 79, 85, 78, 84, 32, 68, 69, 83, 67, 32, 68, 73, 83, 84, 73, 78, 67, 84, 32, 70, 65, 76, 83, 69, 32, 70, 82, 79, 77, 32, 71, 82, 79, 85, 80, 32, 73, 83, 32, 74, 79, 73, 78, 32, 76, 69, 70, 84, 32, 76, 73, 77, 73, 84, 32, 77, 65, 88, 32, 77, 73, 78, 32, 78, 79, 84, 32, 78, 85, 76, 76, 32, 79, 78, 32, 79, 82, 32, 79, 82, 68, 69, 82, 32, 83, 69, 76, 69, 67, 84, 32, 83, 69, 77, 73, 32, 83, 85, 77, 32, 84, 82, 85, 69, 32, 85, 78, 73, 79, 78, 32, 87, 72, 69, 82, 69]) (bs [32]) γ fun z2 => K z2
theorem e_lex_Keys (p : Par) (x_strings_Split) (γ : Type) (K : List Ent × Sig → Option γ) : evFK (cfg p) (T_lex_Keys x_strings_Split) (L_lex_Keys x_strings_Split) 110 [] [] γ K = Sp.B_lex_Keys x_strings_Split γ (fun r0 => K ([(dat (sl r0), Own.none)], [])) := by kernel_rfl
def Sp.lex_Keys : Ty_lex_Keys := Sp.B_lex_Keys Sp.strings_Split
theorem E_lex_Keys (p : Par) {F : Ent3} (hF : EntOk (cfg p) 110 F) : EntOk (cfg p) 110 (P_lex_Keys Sp.lex_Keys F) := by
  intro a s γ K q h
  unfold P_lex_Keys at h
  split at h
  · exact body_ok (tab_call (tab_nil _) (E_strings_Split p (ent_none _ _))) rfl ((e_lex_Keys p _ _ _).trans h)
  · exact hF _ _ _ _ _ h
abbrev Ty_slices_Index_string_string_L0 : Type 1 := List (List Dat) → ByteArray → Int → Int → Int → (γ : Type) → (Ex → Int → Int → Option γ) → Option γ
def P_slices_Index_string_string_L0 (X : Ty_slices_Index_string_string_L0) (F : Loop3) : Loop3 := fun a s γ K => match a, s with
  | [dat (sl v_s), dat (str v_v), dat (int i64 v_)], ([dat (int i64 v__1), dat (int i64 v__2)], []) => X v_s v_v v_ v__1 v__2 γ (fun e x0 x1 => K (e, ([dat (int i64 x0), dat (int i64 x1)], [])))
  | a, s => F a s γ K
def T_slices_Index_string_string_L0 : CallK := noneK
def L_slices_Index_string_string_L0 : LoopK := noneL
def Sp.B_slices_Index_string_string_L0 (x_slices_Index_string_string_L0 : Ty_slices_Index_string_string_L0)  (v_s : List (List Dat)) (v_v : ByteArray) (v_ v__1 v__2 : Int) (γ : Type) (K : Ex → Int → Int → Option γ) : Option γ := bif decide (v__2 < v_) then elemAt v_s v__2 fun z7 => bif List.length z7 == 1 then cellAt z7 0 fun z8 => asStr z8 fun z9 => bif decide (v_v = z9) then K Ex.ret v__2 v__2 else x_slices_Index_string_string_L0 v_s v_v v_ v__1 (IntKind.wrap i64 (v__2 + 1)) γ K else none else K (Ex.exit 0) v__1 v__2
theorem e_slices_Index_string_string_L0 (p : Par) (x_slices_Index_string_string_L0 : Ty_slices_Index_string_string_L0) (v_s v_v v_ v__1 v__2) (γ : Type) (K : Ex × Vars → Option γ) : roundK (cfg p) (T_slices_Index_string_string_L0) (L_slices_Index_string_string_L0) 111 0 [dat (sl v_s), dat (str v_v), dat (int i64 v_)] ([dat (int i64 v__1), dat (int i64 v__2)], []) γ (contL (fun v => P_slices_Index_string_string_L0 x_slices_Index_string_string_L0 noneL3 [dat (sl v_s), dat (str v_v), dat (int i64 v_)] v γ K) K) = Sp.B_slices_Index_string_string_L0 x_slices_Index_string_string_L0 v_s v_v v_ v__1 v__2 γ (fun e x0 x1 => K (e, ([dat (int i64 x0), dat (int i64 x1)], []))) := by kernel_rfl
def Sp.slices_Index_string_string_L0 : Nat → Ty_slices_Index_string_string_L0
  | 0 => fun _ _ _ _ _ _ _ => none
  | n + 1 => Sp.B_slices_Index_string_string_L0 (Sp.slices_Index_string_string_L0 n) 
theorem E0_slices_Index_string_string_L0 (p : Par)   : ∀ n, EntOkL (cfg p) 111 0 (P_slices_Index_string_string_L0 (Sp.slices_Index_string_string_L0 n) noneL3) := entL_rounds (tab_nil _) (by kernel_rfl) (fun c v γ K => by unfold P_slices_Index_string_string_L0; split <;> rfl) fun n c v γ K q h => by
  unfold P_slices_Index_string_string_L0 at h
  split at h
  · exact (e_slices_Index_string_string_L0 p _ _ _ _ _ _ _ _).trans h
  · cases h
theorem E_slices_Index_string_string_L0 (p : Par)   (n : Nat) {F : Loop3} (hF : EntOkL (cfg p) 111 0 F) : EntOkL (cfg p) 111 0 (P_slices_Index_string_string_L0 (Sp.slices_Index_string_string_L0 n) F) := by
  intro c v γ K q h
  unfold P_slices_Index_string_string_L0 at h
  split at h
  · exact E0_slices_Index_string_string_L0 p n _ _ _ _ _ h
  · exact hF _ _ _ _ _ h
abbrev Ty_slices_Index_string_string : Type 1 := List (List Dat) → ByteArray → (γ : Type) → (Int → Option γ) → Option γ
def P_slices_Index_string_string (X : Ty_slices_Index_string_string) (F : Ent3) : Ent3 := fun a s γ K => match a, s with
  | [dat (sl v_s), dat (str v_v)], [] => X v_s v_v γ (fun r0 => K ([(dat (int i64 r0), Own.none)], []))
  | a, s => F a s γ K
def T_slices_Index_string_string (x_slices_Index_string_string_L0 : Ty_slices_Index_string_string_L0) : CallK := noneK
def L_slices_Index_string_string (x_slices_Index_string_string_L0 : Ty_slices_Index_string_string_L0) : LoopK := (addL noneL 111 0 (P_slices_Index_string_string_L0 x_slices_Index_string_string_L0 noneL3))
def Sp.B_slices_Index_string_string (x_slices_Index_string_string_L0 : Ty_slices_Index_string_string_L0) (v_s : List (List Dat)) (v_v : ByteArray) (γ : Type) (K : Int → Option γ) : Option γ := x_slices_Index_string_string_L0 v_s v_v (Int.ofNat (List.length v_s)) 0 0 γ fun z4 z5 z6 => bif Ex.isExit z4 0 then K (-1) else bif Ex.isRet z4 then K z5 else none
theorem e_slices_Index_string_string (p : Par) (x_slices_Index_string_string_L0 v_s v_v) (γ : Type) (K : List Ent × Sig → Option γ) : evFK (cfg p) (T_slices_Index_string_string x_slices_Index_string_string_L0) (L_slices_Index_string_string x_slices_Index_string_string_L0) 111 [dat (sl v_s), dat (str v_v)] [] γ K = Sp.B_slices_Index_string_string x_slices_Index_string_string_L0 v_s v_v γ (fun r0 => K ([(dat (int i64 r0), Own.none)], [])) := by kernel_rfl
def Sp.slices_Index_string_string : Ty_slices_Index_string_string := Sp.B_slices_Index_string_string (Sp.slices_Index_string_string_L0 fuel)
theorem E_slices_Index_string_string (p : Par) {F : Ent3} (hF : EntOk (cfg p) 111 F) : EntOk (cfg p) 111 (P_slices_Index_string_string Sp.slices_Index_string_string F) := by
  intro a s γ K q h
  unfold P_slices_Index_string_string at h
  split at h
  · exact body_ok (tab_loop (tab_nil _) (E_slices_Index_string_string_L0 p fuel (entL_none _ _ _))) rfl ((e_slices_Index_string_string p _ _ _ _ _).trans h)
  · exact hF _ _ _ _ _ h
abbrev Ty_slices_Contains_string_string : Type 1 := List (List Dat) → ByteArray → (γ : Type) → (Bool → Option γ) → Option γ
def P_slices_Contains_string_string (X : Ty_slices_Contains_string_string) (F : Ent3) : Ent3 := fun a s γ K => match a, s with
  | [dat (sl v_s), dat (str v_v)], [] => X v_s v_v γ (fun r0 => K ([(dat (Dat.bool r0), Own.none)], []))
  | a, s => F a s γ K
def T_slices_Contains_string_string (x_slices_Index_string_string : Ty_slices_Index_string_string) : CallK := (addK noneK 111 (P_slices_Index_string_string x_slices_Index_string_string none3))
def L_slices_Contains_string_string (x_slices_Index_string_string : Ty_slices_Index_string_string) : LoopK := noneL
def Sp.B_slices_Contains_string_string (x_slices_Index_string_string : Ty_slices_Index_string_string) (v_s : List (List Dat)) (v_v : ByteArray) (γ : Type) (K : Bool → Option γ) : Option γ := x_slices_Index_string_string v_s v_v γ fun z4 => K (decide (0 ≤ z4))
theorem e_slices_Contains_string_string (p : Par) (x_slices_Index_string_string v_s v_v) (γ : Type) (K : List Ent × Sig → Option γ) : evFK (cfg p) (T_slices_Contains_string_string x_slices_Index_string_string) (L_slices_Contains_string_string x_slices_Index_string_string) 109 [dat (sl v_s), dat (str v_v)] [] γ K = Sp.B_slices_Contains_string_string x_slices_Index_string_string v_s v_v γ (fun r0 => K ([(dat (Dat.bool r0), Own.none)], [])) := by kernel_rfl
def Sp.slices_Contains_string_string : Ty_slices_Contains_string_string := Sp.B_slices_Contains_string_string Sp.slices_Index_string_string
theorem E_slices_Contains_string_string (p : Par) {F : Ent3} (hF : EntOk (cfg p) 109 F) : EntOk (cfg p) 109 (P_slices_Contains_string_string Sp.slices_Contains_string_string F) := by
  intro a s γ K q h
  unfold P_slices_Contains_string_string at h
  split at h
  · exact body_ok (tab_call (tab_nil _) (E_slices_Index_string_string p (ent_none _ _))) rfl ((e_slices_Contains_string_string p _ _ _ _ _).trans h)
  · exact hF _ _ _ _ _ h
abbrev Ty_lex_Key : Type 1 := ByteArray → (γ : Type) → (Bool → Option γ) → Option γ
def P_lex_Key (X : Ty_lex_Key) (F : Ent3) : Ent3 := fun a s γ K => match a, s with
  | [dat (str v_word)], [] => X v_word γ (fun r0 => K ([(dat (Dat.bool r0), Own.none)], []))
  | a, s => F a s γ K
def T_lex_Key (x_lex_Keys : Ty_lex_Keys) (x_slices_Contains_string_string : Ty_slices_Contains_string_string) : CallK := (addK (addK noneK 110 (P_lex_Keys x_lex_Keys none3)) 109 (P_slices_Contains_string_string x_slices_Contains_string_string none3))
def L_lex_Key (x_lex_Keys : Ty_lex_Keys) (x_slices_Contains_string_string : Ty_slices_Contains_string_string) : LoopK := noneL
def Sp.B_lex_Key (x_lex_Keys : Ty_lex_Keys) (x_slices_Contains_string_string : Ty_slices_Contains_string_string) (v_word : ByteArray) (γ : Type) (K : Bool → Option γ) : Option γ := x_lex_Keys γ fun z3 => x_slices_Contains_string_string z3 v_word γ fun z4 => K z4
theorem e_lex_Key (p : Par) (x_lex_Keys x_slices_Contains_string_string v_word) (γ : Type) (K : List Ent × Sig → Option γ) : evFK (cfg p) (T_lex_Key x_lex_Keys x_slices_Contains_string_string) (L_lex_Key x_lex_Keys x_slices_Contains_string_string) 106 [dat (str v_word)] [] γ K = Sp.B_lex_Key x_lex_Keys x_slices_Contains_string_string v_word γ (fun r0 => K ([(dat (Dat.bool r0), Own.none)], [])) := by kernel_rfl
def Sp.lex_Key : Ty_lex_Key := Sp.B_lex_Key Sp.lex_Keys Sp.slices_Contains_string_string
theorem E_lex_Key (p : Par) {F : Ent3} (hF : EntOk (cfg p) 106 F) : EntOk (cfg p) 106 (P_lex_Key Sp.lex_Key F) := by
  intro a s γ K q h
  unfold P_lex_Key at h
  split at h
  · exact body_ok (tab_call (tab_call (tab_nil _) (E_lex_Keys p (ent_none _ _))) (E_slices_Contains_string_string p (ent_none _ _))) rfl ((e_lex_Key p _ _ _ _ _).trans h)
  · exact hF _ _ _ _ _ h
abbrev Ty_lex_Name : Type 1 := ByteArray → (γ : Type) → (Bool → Option γ) → Option γ
def P_lex_Name (X : Ty_lex_Name) (F : Ent3) : Ent3 := fun a s γ K => match a, s with
  | [dat (str v_s)], [] => X v_s γ (fun r0 => K ([(dat (Dat.bool r0), Own.none)], []))
  | a, s => F a s γ K
def T_lex_Name (x_lex_letter : Ty_lex_letter) (x_lex_scanner_run : Ty_lex_scanner_run) (x_lex_Key : Ty_lex_Key) : CallK := (addK (addK (addK noneK 104 (P_lex_letter x_lex_letter none3)) 105 (P_lex_scanner_run x_lex_scanner_run none3)) 106 (P_lex_Key x_lex_Key none3))
def L_lex_Name (x_lex_letter : Ty_lex_letter) (x_lex_scanner_run : Ty_lex_scanner_run) (x_lex_Key : Ty_lex_Key) : LoopK := noneL
def Sp.B_lex_Name (x_lex_letter : Ty_lex_letter) (x_lex_scanner_run : Ty_lex_scanner_run) (x_lex_Key : Ty_lex_Key) (v_s : ByteArray) (γ : Type) (K : Bool → Option γ) : Option γ := bif decide (v_s = bs []) then K false else byteAt v_s 0 fun z3 => x_lex_letter (Int.ofNat (BitVec.toFin (UInt8.toBitVec z3)).1) γ fun z4 => bif !z4 then K false else x_lex_scanner_run v_s 0 γ fun z5 z6 z7 => bif decide (z5 = v_s) then bif decide (Int.ofNat (ByteArray.size v_s) ≤ 24) then x_lex_Key v_s γ fun z8 => K !z8 else K false else K false
theorem e_lex_Name (p : Par) (x_lex_letter x_lex_scanner_run x_lex_Key v_s) (γ : Type) (K : List Ent × Sig → Option γ) : evFK (cfg p) (T_lex_Name x_lex_letter x_lex_scanner_run x_lex_Key) (L_lex_Name x_lex_letter x_lex_scanner_run x_lex_Key) 103 [dat (str v_s)] [] γ K = Sp.B_lex_Name x_lex_letter x_lex_scanner_run x_lex_Key v_s γ (fun r0 => K ([(dat (Dat.bool r0), Own.none)], [])) := by kernel_rfl
def Sp.lex_Name : Ty_lex_Name := Sp.B_lex_Name Sp.lex_letter Sp.lex_scanner_run Sp.lex_Key
theorem E_lex_Name (p : Par) {F : Ent3} (hF : EntOk (cfg p) 103 F) : EntOk (cfg p) 103 (P_lex_Name Sp.lex_Name F) := by
  intro a s γ K q h
  unfold P_lex_Name at h
  split at h
  · exact body_ok (tab_call (tab_call (tab_call (tab_nil _) (E_lex_letter p (ent_none _ _))) (E_lex_scanner_run p (ent_none _ _))) (E_lex_Key p (ent_none _ _))) rfl ((e_lex_Name p _ _ _ _ _ _).trans h)
  · exact hF _ _ _ _ _ h
abbrev Ty_expr_column : Type 1 := Int → Int → Int → Int → ByteArray → ByteArray → ByteArray → List (List Dat) → (γ : Type) → (Bool → Option γ) → Option γ
def P_expr_column (X : Ty_expr_column) (F : Ent3) : Ent3 := fun a s γ K => match a, s with
  | [agg [(int i64 v_e0, Own.none), (int i64 v_e1, Own.none), (int i64 v_e2, Own.none), (int i64 v_e3, Own.none), (str v_e4, Own.none), (str v_e5, Own.none), (str v_e6, Own.none), (sl v_e7, Own.none)]], [] => X v_e0 v_e1 v_e2 v_e3 v_e4 v_e5 v_e6 v_e7 γ (fun r0 => K ([(dat (Dat.bool r0), Own.none)], []))
  | a, s => F a s γ K
def T_expr_column (x_lex_Name : Ty_lex_Name) : CallK := (addK noneK 103 (P_lex_Name x_lex_Name none3))
def L_expr_column (x_lex_Name : Ty_lex_Name) : LoopK := noneL
def Sp.B_expr_column (x_lex_Name : Ty_lex_Name) (v_e0 v_e1 v_e2 v_e3 : Int) (v_e4 v_e5 v_e6 : ByteArray) (v_e7 : List (List Dat)) (γ : Type) (K : Bool → Option γ) : Option γ := x_lex_Name v_e6 γ fun z10 => bif z10 then bif decide (v_e5 = bs []) then bif decide (0 ≤ v_e1) then bif decide (v_e1 < 32) then bif decide (v_e2 = 0) && (decide (v_e3 = 0) && (decide (v_e4 = bs []) && true)) then K (decide (Int.ofNat (List.length v_e7) = 0)) else K false else K false else K false else x_lex_Name v_e5 γ fun z11 => bif z11 then bif decide (0 ≤ v_e1) then bif decide (v_e1 < 32) then bif decide (v_e2 = 0) && (decide (v_e3 = 0) && (decide (v_e4 = bs []) && true)) then K (decide (Int.ofNat (List.length v_e7) = 0)) else K false else K false else K false else K false else K false
theorem e_expr_column (p : Par) (x_lex_Name v_e0 v_e1 v_e2 v_e3 v_e4 v_e5 v_e6 v_e7) (γ : Type) (K : List Ent × Sig → Option γ) : evFK (cfg p) (T_expr_column x_lex_Name) (L_expr_column x_lex_Name) 95 [agg [(int i64 v_e0, Own.none), (int i64 v_e1, Own.none), (int i64 v_e2, Own.none), (int i64 v_e3, Own.none), (str v_e4, Own.none), (str v_e5, Own.none), (str v_e6, Own.none), (sl v_e7, Own.none)]] [] γ K = Sp.B_expr_column x_lex_Name v_e0 v_e1 v_e2 v_e3 v_e4 v_e5 v_e6 v_e7 γ (fun r0 => K ([(dat (Dat.bool r0), Own.none)], [])) := by kernel_rfl
def Sp.expr_column : Ty_expr_column := Sp.B_expr_column Sp.lex_Name
theorem E_expr_column (p : Par) {F : Ent3} (hF : EntOk (cfg p) 95 F) : EntOk (cfg p) 95 (P_expr_column Sp.expr_column F) := by
  intro a s γ K q h
  unfold P_expr_column at h
  split at h
  · exact body_ok (tab_call (tab_nil _) (E_lex_Name p (ent_none _ _))) rfl ((e_expr_column p _ _ _ _ _ _ _ _ _ _ _).trans h)
  · exact hF _ _ _ _ _ h
abbrev Ty_expr_bare : Type 1 := Int → Int → Int → Int → ByteArray → ByteArray → ByteArray → List (List Dat) → (γ : Type) → (Bool → Option γ) → Option γ
def P_expr_bare (X : Ty_expr_bare) (F : Ent3) : Ent3 := fun a s γ K => match a, s with
  | [agg [(int i64 v_e0, Own.none), (int i64 v_e1, Own.none), (int i64 v_e2, Own.none), (int i64 v_e3, Own.none), (str v_e4, Own.none), (str v_e5, Own.none), (str v_e6, Own.none), (sl v_e7, Own.none)]], [] => X v_e0 v_e1 v_e2 v_e3 v_e4 v_e5 v_e6 v_e7 γ (fun r0 => K ([(dat (Dat.bool r0), Own.none)], []))
  | a, s => F a s γ K
def T_expr_bare : CallK := noneK
def L_expr_bare : LoopK := noneL
def Sp.B_expr_bare (v_e0 v_e1 v_e2 v_e3 : Int) (v_e4 v_e5 v_e6 : ByteArray) (v_e7 : List (List Dat)) (γ : Type) (K : Bool → Option γ) : Option γ := bif decide (v_e2 = 0) && (decide (v_e3 = 0) && (decide (v_e4 = bs []) && true)) then bif decide (v_e5 = bs []) then K (decide (v_e6 = bs [])) else K false else K false
theorem e_expr_bare (p : Par) (v_e0 v_e1 v_e2 v_e3 v_e4 v_e5 v_e6 v_e7) (γ : Type) (K : List Ent × Sig → Option γ) : evFK (cfg p) (T_expr_bare) (L_expr_bare) 96 [agg [(int i64 v_e0, Own.none), (int i64 v_e1, Own.none), (int i64 v_e2, Own.none), (int i64 v_e3, Own.none), (str v_e4, Own.none), (str v_e5, Own.none), (str v_e6, Own.none), (sl v_e7, Own.none)]] [] γ K = Sp.B_expr_bare v_e0 v_e1 v_e2 v_e3 v_e4 v_e5 v_e6 v_e7 γ (fun r0 => K ([(dat (Dat.bool r0), Own.none)], [])) := by kernel_rfl
def Sp.expr_bare : Ty_expr_bare := Sp.B_expr_bare 
theorem E_expr_bare (p : Par) {F : Ent3} (hF : EntOk (cfg p) 96 F) : EntOk (cfg p) 96 (P_expr_bare Sp.expr_bare F) := by
  intro a s γ K q h
  unfold P_expr_bare at h
  split at h
  · exact body_ok (tab_nil _) rfl ((e_expr_bare p _ _ _ _ _ _ _ _ _ _).trans h)
  · exact hF _ _ _ _ _ h
abbrev Ty_expr_Arity : Type 1 := Int → (γ : Type) → (Int → Option γ) → Option γ
def P_expr_Arity (X : Ty_expr_Arity) (F : Ent3) : Ent3 := fun a s γ K => match a, s with
  | [dat (int i64 v_op)], [] => X v_op γ (fun r0 => K ([(dat (int i64 r0), Own.none)], []))
  | a, s => F a s γ K
def T_expr_Arity : CallK := noneK
def L_expr_Arity : LoopK := noneL
def Sp.B_expr_Arity (v_op : Int) (γ : Type) (K : Int → Option γ) : Option γ := bif decide (v_op = 3) then K 1 else bif decide (15 ≤ v_op) then bif decide (v_op ≤ 17) then K 1 else bif decide (1 ≤ v_op) then bif decide (v_op < 15) then K 2 else K 0 else K 0 else bif decide (1 ≤ v_op) then bif decide (v_op < 15) then K 2 else K 0 else K 0
theorem e_expr_Arity (p : Par) (v_op) (γ : Type) (K : List Ent × Sig → Option γ) : evFK (cfg p) (T_expr_Arity) (L_expr_Arity) 97 [dat (int i64 v_op)] [] γ K = Sp.B_expr_Arity v_op γ (fun r0 => K ([(dat (int i64 r0), Own.none)], [])) := by kernel_rfl
def Sp.expr_Arity : Ty_expr_Arity := Sp.B_expr_Arity 
theorem E_expr_Arity (p : Par) {F : Ent3} (hF : EntOk (cfg p) 97 F) : EntOk (cfg p) 97 (P_expr_Arity Sp.expr_Arity F) := by
  intro a s γ K q h
  unfold P_expr_Arity at h
  split at h
  · exact body_ok (tab_nil _) rfl ((e_expr_Arity p _ _ _).trans h)
  · exact hF _ _ _ _ _ h
abbrev Ty_expr_agg : Type 1 := Int → Int → Int → Int → ByteArray → ByteArray → ByteArray → List (List Dat) → (γ : Type) → (Bool → Option γ) → Option γ
def P_expr_agg (X : Ty_expr_agg) (F : Ent3) : Ent3 := fun a s γ K => match a, s with
  | [agg [(int i64 v_e0, Own.none), (int i64 v_e1, Own.none), (int i64 v_e2, Own.none), (int i64 v_e3, Own.none), (str v_e4, Own.none), (str v_e5, Own.none), (str v_e6, Own.none), (sl v_e7, Own.none)]], [] => X v_e0 v_e1 v_e2 v_e3 v_e4 v_e5 v_e6 v_e7 γ (fun r0 => K ([(dat (Dat.bool r0), Own.none)], []))
  | a, s => F a s γ K
def T_expr_agg (x_expr_bare : Ty_expr_bare) : CallK := (addK noneK 96 (P_expr_bare x_expr_bare none3))
def L_expr_agg (x_expr_bare : Ty_expr_bare) : LoopK := noneL
def Sp.B_expr_agg (x_expr_bare : Ty_expr_bare) (v_e0 v_e1 v_e2 v_e3 : Int) (v_e4 v_e5 v_e6 : ByteArray) (v_e7 : List (List Dat)) (γ : Type) (K : Bool → Option γ) : Option γ := bif decide (v_e1 = 1) then x_expr_bare v_e0 v_e1 v_e2 v_e3 v_e4 v_e5 v_e6 v_e7 γ fun z10 => bif z10 then bif decide (1 ≤ v_e1) then bif decide (v_e1 ≤ 5) then K (decide (Int.ofNat (List.length v_e7) = 0)) else K false else K false else K false else x_expr_bare v_e0 v_e1 v_e2 v_e3 v_e4 v_e5 v_e6 v_e7 γ fun z11 => bif z11 then bif decide (1 ≤ v_e1) then bif decide (v_e1 ≤ 5) then K (decide (Int.ofNat (List.length v_e7) = 1)) else K false else K false else K false
theorem e_expr_agg (p : Par) (x_expr_bare v_e0 v_e1 v_e2 v_e3 v_e4 v_e5 v_e6 v_e7) (γ : Type) (K : List Ent × Sig → Option γ) : evFK (cfg p) (T_expr_agg x_expr_bare) (L_expr_agg x_expr_bare) 98 [agg [(int i64 v_e0, Own.none), (int i64 v_e1, Own.none), (int i64 v_e2, Own.none), (int i64 v_e3, Own.none), (str v_e4, Own.none), (str v_e5, Own.none), (str v_e6, Own.none), (sl v_e7, Own.none)]] [] γ K = Sp.B_expr_agg x_expr_bare v_e0 v_e1 v_e2 v_e3 v_e4 v_e5 v_e6 v_e7 γ (fun r0 => K ([(dat (Dat.bool r0), Own.none)], [])) := by kernel_rfl
def Sp.expr_agg : Ty_expr_agg := Sp.B_expr_agg Sp.expr_bare
theorem E_expr_agg (p : Par) {F : Ent3} (hF : EntOk (cfg p) 98 F) : EntOk (cfg p) 98 (P_expr_agg Sp.expr_agg F) := by
  intro a s γ K q h
  unfold P_expr_agg at h
  split at h
  · exact body_ok (tab_call (tab_nil _) (E_expr_bare p (ent_none _ _))) rfl ((e_expr_agg p _ _ _ _ _ _ _ _ _ _ _).trans h)
  · exact hF _ _ _ _ _ h
abbrev Ty_expr_may : Type 1 := Int → Int → Int → Int → ByteArray → ByteArray → ByteArray → List (List Dat) → (γ : Type) → (Bool → Option γ) → Option γ
def P_expr_may (X : Ty_expr_may) (F : Ent3) : Ent3 := fun a s γ K => match a, s with
  | [agg [(int i64 v_e0, Own.none), (int i64 v_e1, Own.none), (int i64 v_e2, Own.none), (int i64 v_e3, Own.none), (str v_e4, Own.none), (str v_e5, Own.none), (str v_e6, Own.none), (sl v_e7, Own.none)]], [] => X v_e0 v_e1 v_e2 v_e3 v_e4 v_e5 v_e6 v_e7 γ (fun r0 => K ([(dat (Dat.bool r0), Own.none)], []))
  | a, s => F a s γ K
def T_expr_may (x_expr_literal : Ty_expr_literal) (x_expr_column : Ty_expr_column) (x_expr_bare : Ty_expr_bare) (x_expr_Arity : Ty_expr_Arity) (x_expr_agg : Ty_expr_agg) : CallK := (addK (addK (addK (addK (addK noneK 94 (P_expr_literal x_expr_literal none3)) 95 (P_expr_column x_expr_column none3)) 96 (P_expr_bare x_expr_bare none3)) 97 (P_expr_Arity x_expr_Arity none3)) 98 (P_expr_agg x_expr_agg none3))
def L_expr_may (x_expr_literal : Ty_expr_literal) (x_expr_column : Ty_expr_column) (x_expr_bare : Ty_expr_bare) (x_expr_Arity : Ty_expr_Arity) (x_expr_agg : Ty_expr_agg) : LoopK := noneL
def Sp.B_expr_may (x_expr_literal : Ty_expr_literal) (x_expr_column : Ty_expr_column) (x_expr_bare : Ty_expr_bare) (x_expr_Arity : Ty_expr_Arity) (x_expr_agg : Ty_expr_agg) (v_e0 v_e1 v_e2 v_e3 : Int) (v_e4 v_e5 v_e6 : ByteArray) (v_e7 : List (List Dat)) (γ : Type) (K : Bool → Option γ) : Option γ := bif decide (v_e0 = 1) then x_expr_literal v_e0 v_e1 v_e2 v_e3 v_e4 v_e5 v_e6 v_e7 γ fun z10 => K z10 else bif decide (v_e0 = 2) then x_expr_column v_e0 v_e1 v_e2 v_e3 v_e4 v_e5 v_e6 v_e7 γ fun z11 => K z11 else bif decide (v_e0 = 3) then x_expr_bare v_e0 v_e1 v_e2 v_e3 v_e4 v_e5 v_e6 v_e7 γ fun z12 => bif z12 then x_expr_Arity v_e1 γ fun z13 => bif decide (0 < z13) then x_expr_Arity v_e1 γ fun z14 => K (decide (Int.ofNat (List.length v_e7) = z14)) else K false else K false else bif decide (v_e0 = 4) then x_expr_agg v_e0 v_e1 v_e2 v_e3 v_e4 v_e5 v_e6 v_e7 γ fun z15 => K z15 else K false
theorem e_expr_may (p : Par) (x_expr_literal x_expr_column x_expr_bare x_expr_Arity x_expr_agg v_e0 v_e1 v_e2 v_e3 v_e4 v_e5 v_e6 v_e7) (γ : Type) (K : List Ent × Sig → Option γ) : evFK (cfg p) (T_expr_may x_expr_literal x_expr_column x_expr_bare x_expr_Arity x_expr_agg) (L_expr_may x_expr_literal x_expr_column x_expr_bare x_expr_Arity x_expr_agg) 77 [agg [(int i64 v_e0, Own.none), (int i64 v_e1, Own.none), (int i64 v_e2, Own.none), (int i64 v_e3, Own.none), (str v_e4, Own.none), (str v_e5, Own.none), (str v_e6, Own.none), (sl v_e7, Own.none)]] [] γ K = Sp.B_expr_may x_expr_literal x_expr_column x_expr_bare x_expr_Arity x_expr_agg v_e0 v_e1 v_e2 v_e3 v_e4 v_e5 v_e6 v_e7 γ (fun r0 => K ([(dat (Dat.bool r0), Own.none)], [])) := by kernel_rfl
def Sp.expr_may : Ty_expr_may := Sp.B_expr_may Sp.expr_literal Sp.expr_column Sp.expr_bare Sp.expr_Arity Sp.expr_agg
theorem E_expr_may (p : Par) {F : Ent3} (hF : EntOk (cfg p) 77 F) : EntOk (cfg p) 77 (P_expr_may Sp.expr_may F) := by
  intro a s γ K q h
  unfold P_expr_may at h
  split at h
  · exact body_ok (tab_call (tab_call (tab_call (tab_call (tab_call (tab_nil _) (E_expr_literal p (ent_none _ _))) (E_expr_column p (ent_none _ _))) (E_expr_bare p (ent_none _ _))) (E_expr_Arity p (ent_none _ _))) (E_expr_agg p (ent_none _ _))) rfl ((e_expr_may p _ _ _ _ _ _ _ _ _ _ _ _ _ _ _).trans h)
  · exact hF _ _ _ _ _ h
abbrev Ty_expr_scan_look : Type 1 := Int → Int → Int → Int → ByteArray → ByteArray → ByteArray → List (List Dat) → Int → Int → Int → Int → Bool → (γ : Type) → (Int → Int → Bool → Option γ) → Option γ
def P_expr_scan_look (X : Ty_expr_scan_look) (F : Ent3) : Ent3 := fun a s γ K => match a, s with
  | [AVal.ref 0 0, agg [(int i64 v_e0, Own.none), (int i64 v_e1, Own.none), (int i64 v_e2, Own.none), (int i64 v_e3, Own.none), (str v_e4, Own.none), (str v_e5, Own.none), (str v_e6, Own.none), (sl v_e7, Own.none)], dat (int i64 v_deep), dat (int i64 v_aggs)], [Box.cells [dat (int i64 b0), dat (int i64 b1), dat (Dat.bool b2)]] => X v_e0 v_e1 v_e2 v_e3 v_e4 v_e5 v_e6 v_e7 v_deep v_aggs b0 b1 b2 γ (fun r0 r1 r2 => K ([], [Box.cells [dat (int i64 r0), dat (int i64 r1), dat (Dat.bool r2)]]))
  | a, s => F a s γ K
abbrev Ty_expr_scan_look_L0 : Type 1 := Int → Int → List (List Dat) → Int → Int → Int → Int → Bool → (γ : Type) → (Ex → Int → Int → Int → Bool → Option γ) → Option γ
def P_expr_scan_look_L0 (X : Ty_expr_scan_look_L0) (F : Loop3) : Loop3 := fun a s γ K => match a, s with
  | [AVal.ref 0 0, dat (int i64 v_deep), dat (int i64 v_aggs), dat (sl v_), dat (int i64 v__1)], ([dat (int i64 v__2)], [Box.cells [dat (int i64 b0), dat (int i64 b1), dat (Dat.bool b2)]]) => X v_deep v_aggs v_ v__1 v__2 b0 b1 b2 γ (fun e x0 x1 x2 x3 => K (e, ([dat (int i64 x0)], [Box.cells [dat (int i64 x1), dat (int i64 x2), dat (Dat.bool x3)]])))
  | a, s => F a s γ K
def T_expr_scan_look_L0 (x_expr_scan_look : Ty_expr_scan_look) : CallK := (addK noneK 55 (P_expr_scan_look x_expr_scan_look none3))
def L_expr_scan_look_L0 (x_expr_scan_look : Ty_expr_scan_look) : LoopK := noneL
def Sp.B_expr_scan_look_L0 (x_expr_scan_look_L0 : Ty_expr_scan_look_L0) (x_expr_scan_look : Ty_expr_scan_look) (v_deep v_aggs : Int) (v_ : List (List Dat)) (v__1 v__2 b0 b1 : Int) (b2 : Bool) (γ : Type) (K : Ex → Int → Int → Int → Bool → Option γ) : Option γ := bif decide (v__2 < v__1) then elemAt v_ v__2 fun z10 => bif List.length z10 == 8 then cellAt z10 0 fun z11 => Aev.asInt i64 z11 fun z12 => cellAt z10 1 fun z13 => Aev.asInt i64 z13 fun z14 => cellAt z10 2 fun z15 => Aev.asInt i64 z15 fun z16 => cellAt z10 3 fun z17 => Aev.asInt i64 z17 fun z18 => cellAt z10 4 fun z19 => asStr z19 fun z20 => cellAt z10 5 fun z21 => asStr z21 fun z22 => cellAt z10 6 fun z23 => asStr z23 fun z24 => cellAt z10 7 fun z25 => asSl z25 fun z26 => bif b2 then K Ex.ret v__2 b0 b1 b2 else x_expr_scan_look z12 z14 z16 z18 z20 z22 z24 z26 (IntKind.wrap i64 (v_deep + 1)) v_aggs b0 b1 b2 γ fun z27 z28 z29 => x_expr_scan_look_L0 v_deep v_aggs v_ v__1 (IntKind.wrap i64 (v__2 + 1)) z27 z28 z29 γ K else none else K (Ex.exit 0) v__2 b0 b1 b2
theorem e_expr_scan_look_L0 (p : Par) (x_expr_scan_look_L0 : Ty_expr_scan_look_L0) (x_expr_scan_look v_deep v_aggs v_ v__1 v__2 b0 b1 b2) (γ : Type) (K : Ex × Vars → Option γ) : roundK (cfg p) (T_expr_scan_look_L0 x_expr_scan_look) (L_expr_scan_look_L0 x_expr_scan_look) 55 0 [AVal.ref 0 0, dat (int i64 v_deep), dat (int i64 v_aggs), dat (sl v_), dat (int i64 v__1)] ([dat (int i64 v__2)], [Box.cells [dat (int i64 b0), dat (int i64 b1), dat (Dat.bool b2)]]) γ (contL (fun v => P_expr_scan_look_L0 x_expr_scan_look_L0 noneL3 [AVal.ref 0 0, dat (int i64 v_deep), dat (int i64 v_aggs), dat (sl v_), dat (int i64 v__1)] v γ K) K) = Sp.B_expr_scan_look_L0 x_expr_scan_look_L0 x_expr_scan_look v_deep v_aggs v_ v__1 v__2 b0 b1 b2 γ (fun e x0 x1 x2 x3 => K (e, ([dat (int i64 x0)], [Box.cells [dat (int i64 x1), dat (int i64 x2), dat (Dat.bool x3)]]))) := by kernel_rfl
def T_expr_scan_look (x_expr_scan_look_L0 : Ty_expr_scan_look_L0) (x_expr_may : Ty_expr_may) : CallK := (addK noneK 77 (P_expr_may x_expr_may none3))
def L_expr_scan_look (x_expr_scan_look_L0 : Ty_expr_scan_look_L0) (x_expr_may : Ty_expr_may) : LoopK := (addL noneL 55 0 (P_expr_scan_look_L0 x_expr_scan_look_L0 noneL3))
def Sp.B_expr_scan_look (x_expr_scan_look_L0 : Ty_expr_scan_look_L0) (x_expr_may : Ty_expr_may) (v_e0 v_e1 v_e2 v_e3 : Int) (v_e4 v_e5 v_e6 : ByteArray) (v_e7 : List (List Dat)) (v_deep v_aggs b0 b1 : Int) (b2 : Bool) (γ : Type) (K : Int → Int → Bool → Option γ) : Option γ := bif decide (v_e0 = 4) then bif b2 then x_expr_scan_look_L0 v_deep (IntKind.wrap i64 (v_aggs + 1)) v_e7 (Int.ofNat (List.length v_e7)) 0 (IntKind.wrap i64 (b0 + 1)) (max b1 v_deep) true γ fun z15 z16 z17 z18 z19 => bif Ex.isExit z15 0 then K z17 z18 z19 else bif Ex.isRet z15 then K z17 z18 z19 else none else x_expr_may v_e0 v_e1 v_e2 v_e3 v_e4 v_e5 v_e6 v_e7 γ fun z20 => bif !z20 then x_expr_scan_look_L0 v_deep (IntKind.wrap i64 (v_aggs + 1)) v_e7 (Int.ofNat (List.length v_e7)) 0 (IntKind.wrap i64 (b0 + 1)) (max b1 v_deep) true γ fun z21 z22 z23 z24 z25 => bif Ex.isExit z21 0 then K z23 z24 z25 else bif Ex.isRet z21 then K z23 z24 z25 else none else bif decide (1 < IntKind.wrap i64 (v_aggs + 1)) then x_expr_scan_look_L0 v_deep (IntKind.wrap i64 (v_aggs + 1)) v_e7 (Int.ofNat (List.length v_e7)) 0 (IntKind.wrap i64 (b0 + 1)) (max b1 v_deep) true γ fun z26 z27 z28 z29 z30 => bif Ex.isExit z26 0 then K z28 z29 z30 else bif Ex.isRet z26 then K z28 z29 z30 else none else bif decide (512 < IntKind.wrap i64 (b0 + 1)) then x_expr_scan_look_L0 v_deep (IntKind.wrap i64 (v_aggs + 1)) v_e7 (Int.ofNat (List.length v_e7)) 0 (IntKind.wrap i64 (b0 + 1)) (max b1 v_deep) true γ fun z31 z32 z33 z34 z35 => bif Ex.isExit z31 0 then K z33 z34 z35 else bif Ex.isRet z31 then K z33 z34 z35 else none else x_expr_scan_look_L0 v_deep (IntKind.wrap i64 (v_aggs + 1)) v_e7 (Int.ofNat (List.length v_e7)) 0 (IntKind.wrap i64 (b0 + 1)) (max b1 v_deep) (decide (32 < v_deep)) γ fun z36 z37 z38 z39 z40 => bif Ex.isExit z36 0 then K z38 z39 z40 else bif Ex.isRet z36 then K z38 z39 z40 else none else bif b2 then x_expr_scan_look_L0 v_deep v_aggs v_e7 (Int.ofNat (List.length v_e7)) 0 (IntKind.wrap i64 (b0 + 1)) (max b1 v_deep) true γ fun z41 z42 z43 z44 z45 => bif Ex.isExit z41 0 then K z43 z44 z45 else bif Ex.isRet z41 then K z43 z44 z45 else none else x_expr_may v_e0 v_e1 v_e2 v_e3 v_e4 v_e5 v_e6 v_e7 γ fun z46 => bif !z46 then x_expr_scan_look_L0 v_deep v_aggs v_e7 (Int.ofNat (List.length v_e7)) 0 (IntKind.wrap i64 (b0 + 1)) (max b1 v_deep) true γ fun z47 z48 z49 z50 z51 => bif Ex.isExit z47 0 then K z49 z50 z51 else bif Ex.isRet z47 then K z49 z50 z51 else none else bif decide (1 < v_aggs) then x_expr_scan_look_L0 v_deep v_aggs v_e7 (Int.ofNat (List.length v_e7)) 0 (IntKind.wrap i64 (b0 + 1)) (max b1 v_deep) true γ fun z52 z53 z54 z55 z56 => bif Ex.isExit z52 0 then K z54 z55 z56 else bif Ex.isRet z52 then K z54 z55 z56 else none else bif decide (512 < IntKind.wrap i64 (b0 + 1)) then x_expr_scan_look_L0 v_deep v_aggs v_e7 (Int.ofNat (List.length v_e7)) 0 (IntKind.wrap i64 (b0 + 1)) (max b1 v_deep) true γ fun z57 z58 z59 z60 z61 => bif Ex.isExit z57 0 then K z59 z60 z61 else bif Ex.isRet z57 then K z59 z60 z61 else none else x_expr_scan_look_L0 v_deep v_aggs v_e7 (Int.ofNat (List.length v_e7)) 0 (IntKind.wrap i64 (b0 + 1)) (max b1 v_deep) (decide (32 < v_deep)) γ fun z62 z63 z64 z65 z66 => bif Ex.isExit z62 0 then K z64 z65 z66 else bif Ex.isRet z62 then K z64 z65 z66 else none
theorem e_expr_scan_look (p : Par) (x_expr_scan_look_L0 x_expr_may v_e0 v_e1 v_e2 v_e3 v_e4 v_e5 v_e6 v_e7 v_deep v_aggs b0 b1 b2) (γ : Type) (K : List Ent × Sig → Option γ) : evFK (cfg p) (T_expr_scan_look x_expr_scan_look_L0 x_expr_may) (L_expr_scan_look x_expr_scan_look_L0 x_expr_may) 55 [AVal.ref 0 0, agg [(int i64 v_e0, Own.none), (int i64 v_e1, Own.none), (int i64 v_e2, Own.none), (int i64 v_e3, Own.none), (str v_e4, Own.none), (str v_e5, Own.none), (str v_e6, Own.none), (sl v_e7, Own.none)], dat (int i64 v_deep), dat (int i64 v_aggs)] [Box.cells [dat (int i64 b0), dat (int i64 b1), dat (Dat.bool b2)]] γ K = Sp.B_expr_scan_look x_expr_scan_look_L0 x_expr_may v_e0 v_e1 v_e2 v_e3 v_e4 v_e5 v_e6 v_e7 v_deep v_aggs b0 b1 b2 γ (fun r0 r1 r2 => K ([], [Box.cells [dat (int i64 r0), dat (int i64 r1), dat (Dat.bool r2)]])) := by kernel_rfl
def Sp.expr_scan_look_L0 (R_expr_scan_look : Ty_expr_scan_look) : Nat → Ty_expr_scan_look_L0
  | 0 => fun _ _ _ _ _ _ _ _ _ _ => none
  | n + 1 => Sp.B_expr_scan_look_L0 (Sp.expr_scan_look_L0 R_expr_scan_look n) R_expr_scan_look
theorem E0_expr_scan_look_L0 (p : Par) (R_expr_scan_look : Ty_expr_scan_look) (h_expr_scan_look : ∀ {F : Ent3}, EntOk (cfg p) 55 F → EntOk (cfg p) 55 (P_expr_scan_look R_expr_scan_look F)) : ∀ n, EntOkL (cfg p) 55 0 (P_expr_scan_look_L0 (Sp.expr_scan_look_L0 R_expr_scan_look n) noneL3) := entL_rounds (tab_call (tab_nil _) (h_expr_scan_look (ent_none _ _))) (by kernel_rfl) (fun c v γ K => by unfold P_expr_scan_look_L0; split <;> rfl) fun n c v γ K q h => by
  unfold P_expr_scan_look_L0 at h
  split at h
  · exact (e_expr_scan_look_L0 p _ _ _ _ _ _ _ _ _ _ _ _).trans h
  · cases h
theorem E_expr_scan_look_L0 (p : Par) (R_expr_scan_look : Ty_expr_scan_look) (h_expr_scan_look : ∀ {F : Ent3}, EntOk (cfg p) 55 F → EntOk (cfg p) 55 (P_expr_scan_look R_expr_scan_look F)) (n : Nat) {F : Loop3} (hF : EntOkL (cfg p) 55 0 F) : EntOkL (cfg p) 55 0 (P_expr_scan_look_L0 (Sp.expr_scan_look_L0 R_expr_scan_look n) F) := by
  intro c v γ K q h
  unfold P_expr_scan_look_L0 at h
  split at h
  · exact E0_expr_scan_look_L0 p R_expr_scan_look h_expr_scan_look n _ _ _ _ _ h
  · exact hF _ _ _ _ _ h
def Sp.expr_scan_look : Nat → Ty_expr_scan_look
  | 0 => fun _ _ _ _ _ _ _ _ _ _ _ _ _ _ _ => none
  | n + 1 => Sp.B_expr_scan_look (Sp.expr_scan_look_L0 (Sp.expr_scan_look n) fuel) Sp.expr_may
theorem G16_ok (p : Par) (n : Nat) : (∀ {F : Ent3}, EntOk (cfg p) 55 F → EntOk (cfg p) 55 (P_expr_scan_look (Sp.expr_scan_look n) F)) := by
  induction n with
  | zero =>
    refine ?_
    · intro F hF a s γ K q h
      unfold P_expr_scan_look at h
      split at h
      · cases h
      · exact hF _ _ _ _ _ h
  | succ n ih =>
    refine ?_
    · intro F hF a s γ K q h
      unfold P_expr_scan_look at h
      split at h
      · exact body_ok (tab_loop (tab_call (tab_nil _) (E_expr_may p (ent_none _ _))) (E_expr_scan_look_L0 p (Sp.expr_scan_look n) ih fuel (entL_none _ _ _))) rfl ((e_expr_scan_look p _ _ _ _ _ _ _ _ _ _ _ _ _ _ _ _ _).trans h)
      · exact hF _ _ _ _ _ h
theorem E_expr_scan_look (p : Par) (n : Nat) {F : Ent3} (hF : EntOk (cfg p) 55 F) : EntOk (cfg p) 55 (P_expr_scan_look (Sp.expr_scan_look n) F) := (G16_ok p n) hF
abbrev Ty_expr_scanned : Type 1 := Int → Int → Int → Int → ByteArray → ByteArray → ByteArray → List (List Dat) → (γ : Type) → (Int → Int → Bool → Option γ) → Option γ
def P_expr_scanned (X : Ty_expr_scanned) (F : Ent3) : Ent3 := fun a s γ K => match a, s with
  | [agg [(int i64 v_e0, Own.none), (int i64 v_e1, Own.none), (int i64 v_e2, Own.none), (int i64 v_e3, Own.none), (str v_e4, Own.none), (str v_e5, Own.none), (str v_e6, Own.none), (sl v_e7, Own.none)]], [] => X v_e0 v_e1 v_e2 v_e3 v_e4 v_e5 v_e6 v_e7 γ (fun r0 r1 r2 => K ([(agg [(int i64 r0, Own.none), (int i64 r1, Own.none), (Dat.bool r2, Own.none)], Own.none)], []))
  | a, s => F a s γ K
def T_expr_scanned (x_expr_scan_look : Ty_expr_scan_look) : CallK := (addK noneK 55 (P_expr_scan_look x_expr_scan_look none3))
def L_expr_scanned (x_expr_scan_look : Ty_expr_scan_look) : LoopK := noneL
def Sp.B_expr_scanned (x_expr_scan_look : Ty_expr_scan_look) (v_e0 v_e1 v_e2 v_e3 : Int) (v_e4 v_e5 v_e6 : ByteArray) (v_e7 : List (List Dat)) (γ : Type) (K : Int → Int → Bool → Option γ) : Option γ := x_expr_scan_look v_e0 v_e1 v_e2 v_e3 v_e4 v_e5 v_e6 v_e7 1 0 0 0 false γ fun z10 z11 z12 => bif z12 then K 0 0 true else K z10 z11 z12
theorem e_expr_scanned (p : Par) (x_expr_scan_look v_e0 v_e1 v_e2 v_e3 v_e4 v_e5 v_e6 v_e7) (γ : Type) (K : List Ent × Sig → Option γ) : evFK (cfg p) (T_expr_scanned x_expr_scan_look) (L_expr_scanned x_expr_scan_look) 46 [agg [(int i64 v_e0, Own.none), (int i64 v_e1, Own.none), (int i64 v_e2, Own.none), (int i64 v_e3, Own.none), (str v_e4, Own.none), (str v_e5, Own.none), (str v_e6, Own.none), (sl v_e7, Own.none)]] [] γ K = Sp.B_expr_scanned x_expr_scan_look v_e0 v_e1 v_e2 v_e3 v_e4 v_e5 v_e6 v_e7 γ (fun r0 r1 r2 => K ([(agg [(int i64 r0, Own.none), (int i64 r1, Own.none), (Dat.bool r2, Own.none)], Own.none)], [])) := by kernel_rfl
def Sp.expr_scanned : Ty_expr_scanned := Sp.B_expr_scanned (Sp.expr_scan_look fuel)
theorem E_expr_scanned (p : Par) {F : Ent3} (hF : EntOk (cfg p) 46 F) : EntOk (cfg p) 46 (P_expr_scanned Sp.expr_scanned F) := by
  intro a s γ K q h
  unfold P_expr_scanned at h
  split at h
  · exact body_ok (tab_call (tab_nil _) (E_expr_scan_look p fuel (ent_none _ _))) rfl ((e_expr_scanned p _ _ _ _ _ _ _ _ _ _ _).trans h)
  · exact hF _ _ _ _ _ h
abbrev Ty_expr_Check : Type 1 := Int → Int → Int → Int → ByteArray → ByteArray → ByteArray → List (List Dat) → (γ : Type) → (Int → Option γ) → Option γ
def P_expr_Check (X : Ty_expr_Check) (F : Ent3) : Ent3 := fun a s γ K => match a, s with
  | [agg [(int i64 v_e0, Own.none), (int i64 v_e1, Own.none), (int i64 v_e2, Own.none), (int i64 v_e3, Own.none), (str v_e4, Own.none), (str v_e5, Own.none), (str v_e6, Own.none), (sl v_e7, Own.none)]], [] => X v_e0 v_e1 v_e2 v_e3 v_e4 v_e5 v_e6 v_e7 γ (fun r0 => K ([(dat (int i64 r0), Own.none)], []))
  | a, s => F a s γ K
def T_expr_Check (x_expr_scanned : Ty_expr_scanned) : CallK := (addK noneK 46 (P_expr_scanned x_expr_scanned none3))
def L_expr_Check (x_expr_scanned : Ty_expr_scanned) : LoopK := noneL
def Sp.B_expr_Check (x_expr_scanned : Ty_expr_scanned) (v_e0 v_e1 v_e2 v_e3 : Int) (v_e4 v_e5 v_e6 : ByteArray) (v_e7 : List (List Dat)) (γ : Type) (K : Int → Option γ) : Option γ := x_expr_scanned v_e0 v_e1 v_e2 v_e3 v_e4 v_e5 v_e6 v_e7 γ fun z10 z11 z12 => bif z12 then K 100 else K 0
theorem e_expr_Check (p : Par) (x_expr_scanned v_e0 v_e1 v_e2 v_e3 v_e4 v_e5 v_e6 v_e7) (γ : Type) (K : List Ent × Sig → Option γ) : evFK (cfg p) (T_expr_Check x_expr_scanned) (L_expr_Check x_expr_scanned) 34 [agg [(int i64 v_e0, Own.none), (int i64 v_e1, Own.none), (int i64 v_e2, Own.none), (int i64 v_e3, Own.none), (str v_e4, Own.none), (str v_e5, Own.none), (str v_e6, Own.none), (sl v_e7, Own.none)]] [] γ K = Sp.B_expr_Check x_expr_scanned v_e0 v_e1 v_e2 v_e3 v_e4 v_e5 v_e6 v_e7 γ (fun r0 => K ([(dat (int i64 r0), Own.none)], [])) := by kernel_rfl
def Sp.expr_Check : Ty_expr_Check := Sp.B_expr_Check Sp.expr_scanned
theorem E_expr_Check (p : Par) {F : Ent3} (hF : EntOk (cfg p) 34 F) : EntOk (cfg p) 34 (P_expr_Check Sp.expr_Check F) := by
  intro a s γ K q h
  unfold P_expr_Check at h
  split at h
  · exact body_ok (tab_call (tab_nil _) (E_expr_scanned p (ent_none _ _))) rfl ((e_expr_Check p _ _ _ _ _ _ _ _ _ _ _).trans h)
  · exact hF _ _ _ _ _ h
abbrev Ty_types_Bind_1 : Type 1 := Int → Int → Int → Int → ByteArray → ByteArray → ByteArray → List (List Dat) → List (List Dat) → (γ : Type) → (Int → Int → List (List Dat) → Option γ) → Option γ
def P_types_Bind_1 (X : Ty_types_Bind_1) (F : Ent3) : Ent3 := fun a s γ K => match a, s with
  | [agg [(int i64 v_c0, Own.none), (int i64 v_c1, Own.none), (int i64 v_c2, Own.none), (int i64 v_c3, Own.none), (str v_c4, Own.none), (str v_c5, Own.none), (str v_c6, Own.none), (sl v_c7, Own.none)], AVal.ref 0 0], [Box.cells [dat (sl b)]] => X v_c0 v_c1 v_c2 v_c3 v_c4 v_c5 v_c6 v_c7 b γ (fun r0 r1 r2 => K ([(dat (int i64 r0), Own.none), (dat (int i64 r1), Own.none)], [Box.cells [dat (sl r2)]]))
  | a, s => F a s γ K
def T_types_Bind_1 (x_types_Find : Ty_types_Find) : CallK := (addK noneK 10 (P_types_Find x_types_Find none3))
def L_types_Bind_1 (x_types_Find : Ty_types_Find) : LoopK := noneL
def Sp.B_types_Bind_1 (x_types_Find : Ty_types_Find) (v_c0 v_c1 v_c2 v_c3 : Int) (v_c4 v_c5 v_c6 : ByteArray) (v_c7 b : List (List Dat)) (γ : Type) (K : Int → Int → List (List Dat) → Option γ) : Option γ := x_types_Find b v_c5 v_c6 γ fun z11 z12 => K z11 z12 b
theorem e_types_Bind_1 (p : Par) (x_types_Find v_c0 v_c1 v_c2 v_c3 v_c4 v_c5 v_c6 v_c7 b) (γ : Type) (K : List Ent × Sig → Option γ) : evFK (cfg p) (T_types_Bind_1 x_types_Find) (L_types_Bind_1 x_types_Find) 31 [agg [(int i64 v_c0, Own.none), (int i64 v_c1, Own.none), (int i64 v_c2, Own.none), (int i64 v_c3, Own.none), (str v_c4, Own.none), (str v_c5, Own.none), (str v_c6, Own.none), (sl v_c7, Own.none)], AVal.ref 0 0] [Box.cells [dat (sl b)]] γ K = Sp.B_types_Bind_1 x_types_Find v_c0 v_c1 v_c2 v_c3 v_c4 v_c5 v_c6 v_c7 b γ (fun r0 r1 r2 => K ([(dat (int i64 r0), Own.none), (dat (int i64 r1), Own.none)], [Box.cells [dat (sl r2)]])) := by kernel_rfl
def Sp.types_Bind_1 : Ty_types_Bind_1 := Sp.B_types_Bind_1 Sp.types_Find
theorem E_types_Bind_1 (p : Par) {F : Ent3} (hF : EntOk (cfg p) 31 F) : EntOk (cfg p) 31 (P_types_Bind_1 Sp.types_Bind_1 F) := by
  intro a s γ K q h
  unfold P_types_Bind_1 at h
  split at h
  · exact body_ok (tab_call (tab_nil _) (E_types_Find p (ent_none _ _))) rfl ((e_types_Bind_1 p _ _ _ _ _ _ _ _ _ _ _ _).trans h)
  · exact hF _ _ _ _ _ h
abbrev Ty_types_each : Type 1 := Int → Int → Int → Int → ByteArray → ByteArray → ByteArray → List (List Dat) → List (List Dat) → (γ : Type) → (Int → Int → Int → Int → ByteArray → ByteArray → ByteArray → List (List Dat) → Dat → List (List Dat) → Option γ) → Option γ
def P_types_each (X : Ty_types_each) (F : Ent3) : Ent3 := fun a s γ K => match a, s with
  | [agg [(int i64 v_e0, Own.none), (int i64 v_e1, Own.none), (int i64 v_e2, Own.none), (int i64 v_e3, Own.none), (str v_e4, Own.none), (str v_e5, Own.none), (str v_e6, Own.none), (sl v_e7, Own.none)], AVal.clo (Fn.func 31) [] [AVal.ref 0 0]], [Box.cells [dat (sl b)]] => X v_e0 v_e1 v_e2 v_e3 v_e4 v_e5 v_e6 v_e7 b γ (fun r0 r1 r2 r3 r4 r5 r6 r7 r8 r9 => K ([(agg [(int i64 r0, Own.none), (int i64 r1, Own.none), (int i64 r2, Own.none), (int i64 r3, Own.none), (str r4, Own.none), (str r5, Own.none), (str r6, Own.none), (sl r7, Own.none)], Own.none), (dat r8, Own.none)], [Box.cells [dat (sl r9)]]))
  | a, s => F a s γ K
abbrev Ty_types_each_L0 : Type 1 := List (List Dat) → Int → Dat → Int → Int → Int → Int → Int → ByteArray → ByteArray → ByteArray → List (List Dat) → Int → Int → Int → Int → ByteArray → ByteArray → ByteArray → List (List Dat) → List (List Dat) → (γ : Type) → (Ex → Dat → Int → Int → Int → Int → Int → ByteArray → ByteArray → ByteArray → List (List Dat) → Int → Int → Int → Int → ByteArray → ByteArray → ByteArray → List (List Dat) → List (List Dat) → Option γ) → Option γ
def P_types_each_L0 (X : Ty_types_each_L0) (F : Loop3) : Loop3 := fun a s γ K => match a, s with
  | [AVal.clo (Fn.func 31) [] [AVal.ref 0 0], AVal.loc 2 0, AVal.loc 4 0, dat (sl v_), dat (int i64 v__1)], ([dat v__2, dat (int i64 v__3), agg [(int i64 w0, Own.none), (int i64 w1, Own.none), (int i64 w2, Own.none), (int i64 w3, Own.none), (str w4, Own.none), (str w5, Own.none), (str w6, Own.none), (sl w7, Own.none)], agg [(int i64 w0_1, Own.none), (int i64 w1_1, Own.none), (int i64 w2_1, Own.none), (int i64 w3_1, Own.none), (str w4_1, Own.none), (str w5_1, Own.none), (str w6_1, Own.none), (sl w7_1, Own.none)]], [Box.cells [dat (sl b)]]) => X v_ v__1 v__2 v__3 w0 w1 w2 w3 w4 w5 w6 w7 w0_1 w1_1 w2_1 w3_1 w4_1 w5_1 w6_1 w7_1 b γ (fun e x0 x1 x2 x3 x4 x5 x6 x7 x8 x9 x10 x11 x12 x13 x14 x15 x16 x17 x18 => K (e, ([dat x0, dat (int i64 x1), agg [(int i64 x2, Own.none), (int i64 x3, Own.none), (int i64 x4, Own.none), (int i64 x5, Own.none), (str x6, Own.none), (str x7, Own.none), (str x8, Own.none), (sl x9, Own.none)], agg [(int i64 x10, Own.none), (int i64 x11, Own.none), (int i64 x12, Own.none), (int i64 x13, Own.none), (str x14, Own.none), (str x15, Own.none), (str x16, Own.none), (sl x17, Own.none)]], [Box.cells [dat (sl x18)]])))
  | a, s => F a s γ K
def T_types_each_L0 (x_types_each : Ty_types_each) : CallK := (addK noneK 44 (P_types_each x_types_each none3))
def L_types_each_L0 (x_types_each : Ty_types_each) : LoopK := noneL
def Sp.B_types_each_L0 (x_types_each_L0 : Ty_types_each_L0) (x_types_each : Ty_types_each) (v_ : List (List Dat)) (v__1 : Int) (v__2 : Dat) (v__3 w0 w1 w2 w3 : Int) (w4 w5 w6 : ByteArray) (w7 : List (List Dat)) (w0_1 w1_1 w2_1 w3_1 : Int) (w4_1 w5_1 w6_1 : ByteArray) (w7_1 b : List (List Dat)) (γ : Type) (K : Ex → Dat → Int → Int → Int → Int → Int → ByteArray → ByteArray → ByteArray → List (List Dat) → Int → Int → Int → Int → ByteArray → ByteArray → ByteArray → List (List Dat) → List (List Dat) → Option γ) : Option γ := bif isIfc v__2 then bif decide (v__3 < v__1) then elemAt v_ v__3 fun z23 => bif List.length z23 == 8 then cellAt z23 0 fun z24 => Aev.asInt i64 z24 fun z25 => cellAt z23 1 fun z26 => Aev.asInt i64 z26 fun z27 => cellAt z23 2 fun z28 => Aev.asInt i64 z28 fun z29 => cellAt z23 3 fun z30 => Aev.asInt i64 z30 fun z31 => cellAt z23 4 fun z32 => asStr z32 fun z33 => cellAt z23 5 fun z34 => asStr z34 fun z35 => cellAt z23 6 fun z36 => asStr z36 fun z37 => cellAt z23 7 fun z38 => asSl z38 fun z39 => x_types_each z25 z27 z29 z31 z33 z35 z37 z39 b γ fun z40 z41 z42 z43 z44 z45 z46 z47 z48 z49 => bif isIfc z48 then bif isIfc z48 then bif !isNilI z48 then K Ex.ret z48 v__3 w0 w1 w2 w3 w4 w5 w6 w7 0 0 0 0 (bs []) (bs []) (bs []) [] z49 else bif sized w7 8 && true && true && decide ((List.length w7 + 1) * 105 ≤ 70368744177664) && true then x_types_each_L0 v_ v__1 v__2 (IntKind.wrap i64 (v__3 + 1)) w0 w1 w2 w3 w4 w5 w6 (w7 ++ [[int i64 z40, int i64 z41, int i64 z42, int i64 z43, str z44, str z45, str z46, sl z47]]) w0_1 w1_1 w2_1 w3_1 w4_1 w5_1 w6_1 w7_1 z49 γ K else none else none else none else none else K (Ex.exit 0) v__2 v__3 w0 w1 w2 w3 w4 w5 w6 w7 w0_1 w1_1 w2_1 w3_1 w4_1 w5_1 w6_1 w7_1 b else none
theorem e_types_each_L0 (p : Par) (x_types_each_L0 : Ty_types_each_L0) (x_types_each v_ v__1 v__2 v__3 w0 w1 w2 w3 w4 w5 w6 w7 w0_1 w1_1 w2_1 w3_1 w4_1 w5_1 w6_1 w7_1 b) (γ : Type) (K : Ex × Vars → Option γ) : roundK (cfg p) (T_types_each_L0 x_types_each) (L_types_each_L0 x_types_each) 44 0 [AVal.clo (Fn.func 31) [] [AVal.ref 0 0], AVal.loc 2 0, AVal.loc 4 0, dat (sl v_), dat (int i64 v__1)] ([dat v__2, dat (int i64 v__3), agg [(int i64 w0, Own.none), (int i64 w1, Own.none), (int i64 w2, Own.none), (int i64 w3, Own.none), (str w4, Own.none), (str w5, Own.none), (str w6, Own.none), (sl w7, Own.none)], agg [(int i64 w0_1, Own.none), (int i64 w1_1, Own.none), (int i64 w2_1, Own.none), (int i64 w3_1, Own.none), (str w4_1, Own.none), (str w5_1, Own.none), (str w6_1, Own.none), (sl w7_1, Own.none)]], [Box.cells [dat (sl b)]]) γ (contL (fun v => P_types_each_L0 x_types_each_L0 noneL3 [AVal.clo (Fn.func 31) [] [AVal.ref 0 0], AVal.loc 2 0, AVal.loc 4 0, dat (sl v_), dat (int i64 v__1)] v γ K) K) = Sp.B_types_each_L0 x_types_each_L0 x_types_each v_ v__1 v__2 v__3 w0 w1 w2 w3 w4 w5 w6 w7 w0_1 w1_1 w2_1 w3_1 w4_1 w5_1 w6_1 w7_1 b γ (fun e x0 x1 x2 x3 x4 x5 x6 x7 x8 x9 x10 x11 x12 x13 x14 x15 x16 x17 x18 => K (e, ([dat x0, dat (int i64 x1), agg [(int i64 x2, Own.none), (int i64 x3, Own.none), (int i64 x4, Own.none), (int i64 x5, Own.none), (str x6, Own.none), (str x7, Own.none), (str x8, Own.none), (sl x9, Own.none)], agg [(int i64 x10, Own.none), (int i64 x11, Own.none), (int i64 x12, Own.none), (int i64 x13, Own.none), (str x14, Own.none), (str x15, Own.none), (str x16, Own.none), (sl x17, Own.none)]], [Box.cells [dat (sl x18)]]))) := by kernel_rfl
def T_types_each (x_types_Bind_1 : Ty_types_Bind_1) (x_types_each_L0 : Ty_types_each_L0) : CallK := (addK noneK 31 (P_types_Bind_1 x_types_Bind_1 none3))
def L_types_each (x_types_Bind_1 : Ty_types_Bind_1) (x_types_each_L0 : Ty_types_each_L0) : LoopK := (addL noneL 44 0 (P_types_each_L0 x_types_each_L0 noneL3))
def Sp.B_types_each (x_types_Bind_1 : Ty_types_Bind_1) (x_types_each_L0 : Ty_types_each_L0) (v_e0 v_e1 v_e2 v_e3 : Int) (v_e4 v_e5 v_e6 : ByteArray) (v_e7 b : List (List Dat)) (γ : Type) (K : Int → Int → Int → Int → ByteArray → ByteArray → ByteArray → List (List Dat) → Dat → List (List Dat) → Option γ) : Option γ := bif decide (v_e0 = 2) then x_types_Bind_1 v_e0 v_e1 v_e2 v_e3 v_e4 v_e5 v_e6 v_e7 b γ fun z11 z12 z13 => bif !decide (z12 = 0) then K 0 0 0 0 (bs []) (bs []) (bs []) [] (Dat.ifp 79 [int i64 z12]) z13 else x_types_each_L0 v_e7 (Int.ofNat (List.length v_e7)) Dat.nilI 0 v_e0 z11 v_e2 v_e3 v_e4 v_e5 v_e6 [] 0 0 0 0 (bs []) (bs []) (bs []) [] z13 γ fun z14 z15 z16 z17 z18 z19 z20 z21 z22 z23 z24 z25 z26 z27 z28 z29 z30 z31 z32 z33 => bif isIfc z15 then bif Ex.isExit z14 0 then K z17 z18 z19 z20 z21 z22 z23 z24 Dat.nilI z33 else bif Ex.isRet z14 then K z25 z26 z27 z28 z29 z30 z31 z32 z15 z33 else none else none else x_types_each_L0 v_e7 (Int.ofNat (List.length v_e7)) Dat.nilI 0 v_e0 v_e1 v_e2 v_e3 v_e4 v_e5 v_e6 [] 0 0 0 0 (bs []) (bs []) (bs []) [] b γ fun z34 z35 z36 z37 z38 z39 z40 z41 z42 z43 z44 z45 z46 z47 z48 z49 z50 z51 z52 z53 => bif isIfc z35 then bif Ex.isExit z34 0 then K z37 z38 z39 z40 z41 z42 z43 z44 Dat.nilI z53 else bif Ex.isRet z34 then K z45 z46 z47 z48 z49 z50 z51 z52 z35 z53 else none else none
theorem e_types_each (p : Par) (x_types_Bind_1 x_types_each_L0 v_e0 v_e1 v_e2 v_e3 v_e4 v_e5 v_e6 v_e7 b) (γ : Type) (K : List Ent × Sig → Option γ) : evFK (cfg p) (T_types_each x_types_Bind_1 x_types_each_L0) (L_types_each x_types_Bind_1 x_types_each_L0) 44 [agg [(int i64 v_e0, Own.none), (int i64 v_e1, Own.none), (int i64 v_e2, Own.none), (int i64 v_e3, Own.none), (str v_e4, Own.none), (str v_e5, Own.none), (str v_e6, Own.none), (sl v_e7, Own.none)], AVal.clo (Fn.func 31) [] [AVal.ref 0 0]] [Box.cells [dat (sl b)]] γ K = Sp.B_types_each x_types_Bind_1 x_types_each_L0 v_e0 v_e1 v_e2 v_e3 v_e4 v_e5 v_e6 v_e7 b γ (fun r0 r1 r2 r3 r4 r5 r6 r7 r8 r9 => K ([(agg [(int i64 r0, Own.none), (int i64 r1, Own.none), (int i64 r2, Own.none), (int i64 r3, Own.none), (str r4, Own.none), (str r5, Own.none), (str r6, Own.none), (sl r7, Own.none)], Own.none), (dat r8, Own.none)], [Box.cells [dat (sl r9)]])) := by kernel_rfl
def Sp.types_each_L0 (R_types_each : Ty_types_each) : Nat → Ty_types_each_L0
  | 0 => fun _ _ _ _ _ _ _ _ _ _ _ _ _ _ _ _ _ _ _ _ _ _ _ => none
  | n + 1 => Sp.B_types_each_L0 (Sp.types_each_L0 R_types_each n) R_types_each
theorem E0_types_each_L0 (p : Par) (R_types_each : Ty_types_each) (h_types_each : ∀ {F : Ent3}, EntOk (cfg p) 44 F → EntOk (cfg p) 44 (P_types_each R_types_each F)) : ∀ n, EntOkL (cfg p) 44 0 (P_types_each_L0 (Sp.types_each_L0 R_types_each n) noneL3) := entL_rounds (tab_call (tab_nil _) (h_types_each (ent_none _ _))) (by kernel_rfl) (fun c v γ K => by unfold P_types_each_L0; split <;> rfl) fun n c v γ K q h => by
  unfold P_types_each_L0 at h
  split at h
  · exact (e_types_each_L0 p _ _ _ _ _ _ _ _ _ _ _ _ _ _ _ _ _ _ _ _ _ _ _ _ _).trans h
  · cases h
theorem E_types_each_L0 (p : Par) (R_types_each : Ty_types_each) (h_types_each : ∀ {F : Ent3}, EntOk (cfg p) 44 F → EntOk (cfg p) 44 (P_types_each R_types_each F)) (n : Nat) {F : Loop3} (hF : EntOkL (cfg p) 44 0 F) : EntOkL (cfg p) 44 0 (P_types_each_L0 (Sp.types_each_L0 R_types_each n) F) := by
  intro c v γ K q h
  unfold P_types_each_L0 at h
  split at h
  · exact E0_types_each_L0 p R_types_each h_types_each n _ _ _ _ _ h
  · exact hF _ _ _ _ _ h
def Sp.types_each : Nat → Ty_types_each
  | 0 => fun _ _ _ _ _ _ _ _ _ _ _ => none
  | n + 1 => Sp.B_types_each Sp.types_Bind_1 (Sp.types_each_L0 (Sp.types_each n) fuel)
theorem G38_ok (p : Par) (n : Nat) : (∀ {F : Ent3}, EntOk (cfg p) 44 F → EntOk (cfg p) 44 (P_types_each (Sp.types_each n) F)) := by
  induction n with
  | zero =>
    refine ?_
    · intro F hF a s γ K q h
      unfold P_types_each at h
      split at h
      · cases h
      · exact hF _ _ _ _ _ h
  | succ n ih =>
    refine ?_
    · intro F hF a s γ K q h
      unfold P_types_each at h
      split at h
      · exact body_ok (tab_loop (tab_call (tab_nil _) (E_types_Bind_1 p (ent_none _ _))) (E_types_each_L0 p (Sp.types_each n) ih fuel (entL_none _ _ _))) rfl ((e_types_each p _ _ _ _ _ _ _ _ _ _ _ _ _).trans h)
      · exact hF _ _ _ _ _ h
theorem E_types_each (p : Par) (n : Nat) {F : Ent3} (hF : EntOk (cfg p) 44 F) : EntOk (cfg p) 44 (P_types_each (Sp.types_each n) F) := (G38_ok p n) hF
abbrev Ty_types_placed : Type 1 := Int → Int → Int → Int → ByteArray → ByteArray → ByteArray → List (List Dat) → List (List Dat) → (γ : Type) → (Int → Int → Int → Int → ByteArray → ByteArray → ByteArray → List (List Dat) → Int → List (List Dat) → Option γ) → Option γ
def P_types_placed (X : Ty_types_placed) (F : Ent3) : Ent3 := fun a s γ K => match a, s with
  | [agg [(int i64 v_e0, Own.none), (int i64 v_e1, Own.none), (int i64 v_e2, Own.none), (int i64 v_e3, Own.none), (str v_e4, Own.none), (str v_e5, Own.none), (str v_e6, Own.none), (sl v_e7, Own.none)], AVal.clo (Fn.func 31) [] [AVal.ref 0 0]], [Box.cells [dat (sl b)]] => X v_e0 v_e1 v_e2 v_e3 v_e4 v_e5 v_e6 v_e7 b γ (fun r0 r1 r2 r3 r4 r5 r6 r7 r8 r9 => K ([(agg [(int i64 r0, Own.none), (int i64 r1, Own.none), (int i64 r2, Own.none), (int i64 r3, Own.none), (str r4, Own.none), (str r5, Own.none), (str r6, Own.none), (sl r7, Own.none)], Own.none), (dat (int i64 r8), Own.none)], [Box.cells [dat (sl r9)]]))
  | a, s => F a s γ K
def T_types_placed (x_expr_Check : Ty_expr_Check) (x_types_each : Ty_types_each) (x_types_number : Ty_types_number) : CallK := (addK (addK (addK noneK 34 (P_expr_Check x_expr_Check none3)) 44 (P_types_each x_types_each none3)) 36 (P_types_number x_types_number none3))
def L_types_placed (x_expr_Check : Ty_expr_Check) (x_types_each : Ty_types_each) (x_types_number : Ty_types_number) : LoopK := noneL
def Sp.B_types_placed (x_expr_Check : Ty_expr_Check) (x_types_each : Ty_types_each) (x_types_number : Ty_types_number) (v_e0 v_e1 v_e2 v_e3 : Int) (v_e4 v_e5 v_e6 : ByteArray) (v_e7 b : List (List Dat)) (γ : Type) (K : Int → Int → Int → Int → ByteArray → ByteArray → ByteArray → List (List Dat) → Int → List (List Dat) → Option γ) : Option γ := x_expr_Check v_e0 v_e1 v_e2 v_e3 v_e4 v_e5 v_e6 v_e7 γ fun z11 => bif !decide (z11 = 0) then K 0 0 0 0 (bs []) (bs []) (bs []) [] z11 b else x_types_each v_e0 v_e1 v_e2 v_e3 v_e4 v_e5 v_e6 v_e7 b γ fun z12 z13 z14 z15 z16 z17 z18 z19 z20 z21 => bif isIfc z20 then x_types_number z20 γ fun z22 => bif !decide (z22 = 0) then K 0 0 0 0 (bs []) (bs []) (bs []) [] z22 z21 else K z12 z13 z14 z15 z16 z17 z18 z19 0 z21 else none
theorem e_types_placed (p : Par) (x_expr_Check x_types_each x_types_number v_e0 v_e1 v_e2 v_e3 v_e4 v_e5 v_e6 v_e7 b) (γ : Type) (K : List Ent × Sig → Option γ) : evFK (cfg p) (T_types_placed x_expr_Check x_types_each x_types_number) (L_types_placed x_expr_Check x_types_each x_types_number) 30 [agg [(int i64 v_e0, Own.none), (int i64 v_e1, Own.none), (int i64 v_e2, Own.none), (int i64 v_e3, Own.none), (str v_e4, Own.none), (str v_e5, Own.none), (str v_e6, Own.none), (sl v_e7, Own.none)], AVal.clo (Fn.func 31) [] [AVal.ref 0 0]] [Box.cells [dat (sl b)]] γ K = Sp.B_types_placed x_expr_Check x_types_each x_types_number v_e0 v_e1 v_e2 v_e3 v_e4 v_e5 v_e6 v_e7 b γ (fun r0 r1 r2 r3 r4 r5 r6 r7 r8 r9 => K ([(agg [(int i64 r0, Own.none), (int i64 r1, Own.none), (int i64 r2, Own.none), (int i64 r3, Own.none), (str r4, Own.none), (str r5, Own.none), (str r6, Own.none), (sl r7, Own.none)], Own.none), (dat (int i64 r8), Own.none)], [Box.cells [dat (sl r9)]])) := by kernel_rfl
def Sp.types_placed : Ty_types_placed := Sp.B_types_placed Sp.expr_Check (Sp.types_each fuel) Sp.types_number
theorem E_types_placed (p : Par) {F : Ent3} (hF : EntOk (cfg p) 30 F) : EntOk (cfg p) 30 (P_types_placed Sp.types_placed F) := by
  intro a s γ K q h
  unfold P_types_placed at h
  split at h
  · exact body_ok (tab_call (tab_call (tab_call (tab_nil _) (E_expr_Check p (ent_none _ _))) (E_types_each p fuel (ent_none _ _))) (E_types_number p (ent_none _ _))) rfl ((e_types_placed p _ _ _ _ _ _ _ _ _ _ _ _ _ _).trans h)
  · exact hF _ _ _ _ _ h
abbrev Ty_types_Bind : Type 1 := Int → Int → Int → Int → ByteArray → ByteArray → ByteArray → List (List Dat) → List (List Dat) → (γ : Type) → (Int → Int → Int → Int → ByteArray → ByteArray → ByteArray → List (List Dat) → Int → Option γ) → Option γ
def P_types_Bind (X : Ty_types_Bind) (F : Ent3) : Ent3 := fun a s γ K => match a, s with
  | [agg [(int i64 v_e0, Own.none), (int i64 v_e1, Own.none), (int i64 v_e2, Own.none), (int i64 v_e3, Own.none), (str v_e4, Own.none), (str v_e5, Own.none), (str v_e6, Own.none), (sl v_e7, Own.none)], dat (sl v_cols)], [] => X v_e0 v_e1 v_e2 v_e3 v_e4 v_e5 v_e6 v_e7 v_cols γ (fun r0 r1 r2 r3 r4 r5 r6 r7 r8 => K ([(agg [(int i64 r0, Own.none), (int i64 r1, Own.none), (int i64 r2, Own.none), (int i64 r3, Own.none), (str r4, Own.none), (str r5, Own.none), (str r6, Own.none), (sl r7, Own.none)], Own.none), (dat (int i64 r8), Own.none)], []))
  | a, s => F a s γ K
def T_types_Bind (x_types_placed : Ty_types_placed) : CallK := (addK noneK 30 (P_types_placed x_types_placed none3))
def L_types_Bind (x_types_placed : Ty_types_placed) : LoopK := noneL
def Sp.B_types_Bind (x_types_placed : Ty_types_placed) (v_e0 v_e1 v_e2 v_e3 : Int) (v_e4 v_e5 v_e6 : ByteArray) (v_e7 v_cols : List (List Dat)) (γ : Type) (K : Int → Int → Int → Int → ByteArray → ByteArray → ByteArray → List (List Dat) → Int → Option γ) : Option γ := x_types_placed v_e0 v_e1 v_e2 v_e3 v_e4 v_e5 v_e6 v_e7 v_cols γ fun z11 z12 z13 z14 z15 z16 z17 z18 z19 z20 => K z11 z12 z13 z14 z15 z16 z17 z18 z19
theorem e_types_Bind (p : Par) (x_types_placed v_e0 v_e1 v_e2 v_e3 v_e4 v_e5 v_e6 v_e7 v_cols) (γ : Type) (K : List Ent × Sig → Option γ) : evFK (cfg p) (T_types_Bind x_types_placed) (L_types_Bind x_types_placed) 13 [agg [(int i64 v_e0, Own.none), (int i64 v_e1, Own.none), (int i64 v_e2, Own.none), (int i64 v_e3, Own.none), (str v_e4, Own.none), (str v_e5, Own.none), (str v_e6, Own.none), (sl v_e7, Own.none)], dat (sl v_cols)] [] γ K = Sp.B_types_Bind x_types_placed v_e0 v_e1 v_e2 v_e3 v_e4 v_e5 v_e6 v_e7 v_cols γ (fun r0 r1 r2 r3 r4 r5 r6 r7 r8 => K ([(agg [(int i64 r0, Own.none), (int i64 r1, Own.none), (int i64 r2, Own.none), (int i64 r3, Own.none), (str r4, Own.none), (str r5, Own.none), (str r6, Own.none), (sl r7, Own.none)], Own.none), (dat (int i64 r8), Own.none)], [])) := by kernel_rfl
def Sp.types_Bind : Ty_types_Bind := Sp.B_types_Bind Sp.types_placed
theorem E_types_Bind (p : Par) {F : Ent3} (hF : EntOk (cfg p) 13 F) : EntOk (cfg p) 13 (P_types_Bind Sp.types_Bind F) := by
  intro a s γ K q h
  unfold P_types_Bind at h
  split at h
  · exact body_ok (tab_call (tab_nil _) (E_types_placed p (ent_none _ _))) rfl ((e_types_Bind p _ _ _ _ _ _ _ _ _ _ _ _).trans h)
  · exact hF _ _ _ _ _ h
abbrev Ty_types_all_1 : Type 1 := Int → Int → (γ : Type) → (Bool → Int → Option γ) → Option γ
def P_types_all_1 (X : Ty_types_all_1) (F : Ent3) : Ent3 := fun a s γ K => match a, s with
  | [dat (int i64 v_t), AVal.ref 0 0], [Box.cells [dat (int i64 b)]] => X v_t b γ (fun r0 r1 => K ([(dat (Dat.bool r0), Own.none)], [Box.cells [dat (int i64 r1)]]))
  | a, s => F a s γ K
def T_types_all_1 : CallK := noneK
def L_types_all_1 : LoopK := noneL
def Sp.B_types_all_1 (v_t b : Int) (γ : Type) (K : Bool → Int → Option γ) : Option γ := bif !decide (v_t = b) then K (!decide (v_t = 0)) b else K false b
theorem e_types_all_1 (p : Par) (v_t b) (γ : Type) (K : List Ent × Sig → Option γ) : evFK (cfg p) (T_types_all_1) (L_types_all_1) 79 [dat (int i64 v_t), AVal.ref 0 0] [Box.cells [dat (int i64 b)]] γ K = Sp.B_types_all_1 v_t b γ (fun r0 r1 => K ([(dat (Dat.bool r0), Own.none)], [Box.cells [dat (int i64 r1)]])) := by kernel_rfl
def Sp.types_all_1 : Ty_types_all_1 := Sp.B_types_all_1 
theorem E_types_all_1 (p : Par) {F : Ent3} (hF : EntOk (cfg p) 79 F) : EntOk (cfg p) 79 (P_types_all_1 Sp.types_all_1 F) := by
  intro a s γ K q h
  unfold P_types_all_1 at h
  split at h
  · exact body_ok (tab_nil _) rfl ((e_types_all_1 p _ _ _ _).trans h)
  · exact hF _ _ _ _ _ h
abbrev Ty_slices_IndexFunc_int_int_L0 : Type 1 := List (List Dat) → Int → Int → Int → Int → (γ : Type) → (Ex → Int → Int → Int → Option γ) → Option γ
def P_slices_IndexFunc_int_int_L0 (X : Ty_slices_IndexFunc_int_int_L0) (F : Loop3) : Loop3 := fun a s γ K => match a, s with
  | [dat (sl v_s), AVal.clo (Fn.func 79) [] [AVal.ref 0 0], dat (int i64 v_)], ([dat (int i64 v__1), dat (int i64 v__2)], [Box.cells [dat (int i64 b)]]) => X v_s v_ v__1 v__2 b γ (fun e x0 x1 x2 => K (e, ([dat (int i64 x0), dat (int i64 x1)], [Box.cells [dat (int i64 x2)]])))
  | a, s => F a s γ K
def T_slices_IndexFunc_int_int_L0 (x_types_all_1 : Ty_types_all_1) : CallK := (addK noneK 79 (P_types_all_1 x_types_all_1 none3))
def L_slices_IndexFunc_int_int_L0 (x_types_all_1 : Ty_types_all_1) : LoopK := noneL
def Sp.B_slices_IndexFunc_int_int_L0 (x_slices_IndexFunc_int_int_L0 : Ty_slices_IndexFunc_int_int_L0) (x_types_all_1 : Ty_types_all_1) (v_s : List (List Dat)) (v_ v__1 v__2 b : Int) (γ : Type) (K : Ex → Int → Int → Int → Option γ) : Option γ := bif decide (v__2 < v_) then elemAt v_s v__2 fun z7 => bif List.length z7 == 1 then cellAt z7 0 fun z8 => Aev.asInt i64 z8 fun z9 => x_types_all_1 z9 b γ fun z10 z11 => bif z10 then K Ex.ret v__2 v__2 z11 else x_slices_IndexFunc_int_int_L0 v_s v_ v__1 (IntKind.wrap i64 (v__2 + 1)) z11 γ K else none else K (Ex.exit 0) v__1 v__2 b
theorem e_slices_IndexFunc_int_int_L0 (p : Par) (x_slices_IndexFunc_int_int_L0 : Ty_slices_IndexFunc_int_int_L0) (x_types_all_1 v_s v_ v__1 v__2 b) (γ : Type) (K : Ex × Vars → Option γ) : roundK (cfg p) (T_slices_IndexFunc_int_int_L0 x_types_all_1) (L_slices_IndexFunc_int_int_L0 x_types_all_1) 99 0 [dat (sl v_s), AVal.clo (Fn.func 79) [] [AVal.ref 0 0], dat (int i64 v_)] ([dat (int i64 v__1), dat (int i64 v__2)], [Box.cells [dat (int i64 b)]]) γ (contL (fun v => P_slices_IndexFunc_int_int_L0 x_slices_IndexFunc_int_int_L0 noneL3 [dat (sl v_s), AVal.clo (Fn.func 79) [] [AVal.ref 0 0], dat (int i64 v_)] v γ K) K) = Sp.B_slices_IndexFunc_int_int_L0 x_slices_IndexFunc_int_int_L0 x_types_all_1 v_s v_ v__1 v__2 b γ (fun e x0 x1 x2 => K (e, ([dat (int i64 x0), dat (int i64 x1)], [Box.cells [dat (int i64 x2)]]))) := by kernel_rfl
def Sp.slices_IndexFunc_int_int_L0 : Nat → Ty_slices_IndexFunc_int_int_L0
  | 0 => fun _ _ _ _ _ _ _ => none
  | n + 1 => Sp.B_slices_IndexFunc_int_int_L0 (Sp.slices_IndexFunc_int_int_L0 n) Sp.types_all_1
theorem E0_slices_IndexFunc_int_int_L0 (p : Par)   : ∀ n, EntOkL (cfg p) 99 0 (P_slices_IndexFunc_int_int_L0 (Sp.slices_IndexFunc_int_int_L0 n) noneL3) := entL_rounds (tab_call (tab_nil _) (E_types_all_1 p (ent_none _ _))) (by kernel_rfl) (fun c v γ K => by unfold P_slices_IndexFunc_int_int_L0; split <;> rfl) fun n c v γ K q h => by
  unfold P_slices_IndexFunc_int_int_L0 at h
  split at h
  · exact (e_slices_IndexFunc_int_int_L0 p _ _ _ _ _ _ _ _ _).trans h
  · cases h
theorem E_slices_IndexFunc_int_int_L0 (p : Par)   (n : Nat) {F : Loop3} (hF : EntOkL (cfg p) 99 0 F) : EntOkL (cfg p) 99 0 (P_slices_IndexFunc_int_int_L0 (Sp.slices_IndexFunc_int_int_L0 n) F) := by
  intro c v γ K q h
  unfold P_slices_IndexFunc_int_int_L0 at h
  split at h
  · exact E0_slices_IndexFunc_int_int_L0 p n _ _ _ _ _ h
  · exact hF _ _ _ _ _ h
abbrev Ty_slices_IndexFunc_int_int : Type 1 := List (List Dat) → Int → (γ : Type) → (Int → Int → Option γ) → Option γ
def P_slices_IndexFunc_int_int (X : Ty_slices_IndexFunc_int_int) (F : Ent3) : Ent3 := fun a s γ K => match a, s with
  | [dat (sl v_s), AVal.clo (Fn.func 79) [] [AVal.ref 0 0]], [Box.cells [dat (int i64 b)]] => X v_s b γ (fun r0 r1 => K ([(dat (int i64 r0), Own.none)], [Box.cells [dat (int i64 r1)]]))
  | a, s => F a s γ K
def T_slices_IndexFunc_int_int (x_slices_IndexFunc_int_int_L0 : Ty_slices_IndexFunc_int_int_L0) : CallK := noneK
def L_slices_IndexFunc_int_int (x_slices_IndexFunc_int_int_L0 : Ty_slices_IndexFunc_int_int_L0) : LoopK := (addL noneL 99 0 (P_slices_IndexFunc_int_int_L0 x_slices_IndexFunc_int_int_L0 noneL3))
def Sp.B_slices_IndexFunc_int_int (x_slices_IndexFunc_int_int_L0 : Ty_slices_IndexFunc_int_int_L0) (v_s : List (List Dat)) (b : Int) (γ : Type) (K : Int → Int → Option γ) : Option γ := x_slices_IndexFunc_int_int_L0 v_s (Int.ofNat (List.length v_s)) 0 0 b γ fun z4 z5 z6 z7 => bif Ex.isExit z4 0 then K (-1) z7 else bif Ex.isRet z4 then K z5 z7 else none
theorem e_slices_IndexFunc_int_int (p : Par) (x_slices_IndexFunc_int_int_L0 v_s b) (γ : Type) (K : List Ent × Sig → Option γ) : evFK (cfg p) (T_slices_IndexFunc_int_int x_slices_IndexFunc_int_int_L0) (L_slices_IndexFunc_int_int x_slices_IndexFunc_int_int_L0) 99 [dat (sl v_s), AVal.clo (Fn.func 79) [] [AVal.ref 0 0]] [Box.cells [dat (int i64 b)]] γ K = Sp.B_slices_IndexFunc_int_int x_slices_IndexFunc_int_int_L0 v_s b γ (fun r0 r1 => K ([(dat (int i64 r0), Own.none)], [Box.cells [dat (int i64 r1)]])) := by kernel_rfl
def Sp.slices_IndexFunc_int_int : Ty_slices_IndexFunc_int_int := Sp.B_slices_IndexFunc_int_int (Sp.slices_IndexFunc_int_int_L0 fuel)
theorem E_slices_IndexFunc_int_int (p : Par) {F : Ent3} (hF : EntOk (cfg p) 99 F) : EntOk (cfg p) 99 (P_slices_IndexFunc_int_int Sp.slices_IndexFunc_int_int F) := by
  intro a s γ K q h
  unfold P_slices_IndexFunc_int_int at h
  split at h
  · exact body_ok (tab_loop (tab_nil _) (E_slices_IndexFunc_int_int_L0 p fuel (entL_none _ _ _))) rfl ((e_slices_IndexFunc_int_int p _ _ _ _ _).trans h)
  · exact hF _ _ _ _ _ h
abbrev Ty_slices_ContainsFunc_int_int : Type 1 := List (List Dat) → Int → (γ : Type) → (Bool → Int → Option γ) → Option γ
def P_slices_ContainsFunc_int_int (X : Ty_slices_ContainsFunc_int_int) (F : Ent3) : Ent3 := fun a s γ K => match a, s with
  | [dat (sl v_s), AVal.clo (Fn.func 79) [] [AVal.ref 0 0]], [Box.cells [dat (int i64 b)]] => X v_s b γ (fun r0 r1 => K ([(dat (Dat.bool r0), Own.none)], [Box.cells [dat (int i64 r1)]]))
  | a, s => F a s γ K
def T_slices_ContainsFunc_int_int (x_slices_IndexFunc_int_int : Ty_slices_IndexFunc_int_int) : CallK := (addK noneK 99 (P_slices_IndexFunc_int_int x_slices_IndexFunc_int_int none3))
def L_slices_ContainsFunc_int_int (x_slices_IndexFunc_int_int : Ty_slices_IndexFunc_int_int) : LoopK := noneL
def Sp.B_slices_ContainsFunc_int_int (x_slices_IndexFunc_int_int : Ty_slices_IndexFunc_int_int) (v_s : List (List Dat)) (b : Int) (γ : Type) (K : Bool → Int → Option γ) : Option γ := x_slices_IndexFunc_int_int v_s b γ fun z4 z5 => K (decide (0 ≤ z4)) z5
theorem e_slices_ContainsFunc_int_int (p : Par) (x_slices_IndexFunc_int_int v_s b) (γ : Type) (K : List Ent × Sig → Option γ) : evFK (cfg p) (T_slices_ContainsFunc_int_int x_slices_IndexFunc_int_int) (L_slices_ContainsFunc_int_int x_slices_IndexFunc_int_int) 78 [dat (sl v_s), AVal.clo (Fn.func 79) [] [AVal.ref 0 0]] [Box.cells [dat (int i64 b)]] γ K = Sp.B_slices_ContainsFunc_int_int x_slices_IndexFunc_int_int v_s b γ (fun r0 r1 => K ([(dat (Dat.bool r0), Own.none)], [Box.cells [dat (int i64 r1)]])) := by kernel_rfl
def Sp.slices_ContainsFunc_int_int : Ty_slices_ContainsFunc_int_int := Sp.B_slices_ContainsFunc_int_int Sp.slices_IndexFunc_int_int
theorem E_slices_ContainsFunc_int_int (p : Par) {F : Ent3} (hF : EntOk (cfg p) 78 F) : EntOk (cfg p) 78 (P_slices_ContainsFunc_int_int Sp.slices_ContainsFunc_int_int F) := by
  intro a s γ K q h
  unfold P_slices_ContainsFunc_int_int at h
  split at h
  · exact body_ok (tab_call (tab_nil _) (E_slices_IndexFunc_int_int p (ent_none _ _))) rfl ((e_slices_ContainsFunc_int_int p _ _ _ _ _).trans h)
  · exact hF _ _ _ _ _ h
abbrev Ty_types_all : Type 1 := List (List Dat) → Int → (γ : Type) → (Bool → Option γ) → Option γ
def P_types_all (X : Ty_types_all) (F : Ent3) : Ent3 := fun a s γ K => match a, s with
  | [dat (sl v_l), dat (int i64 v_want)], [] => X v_l v_want γ (fun r0 => K ([(dat (Dat.bool r0), Own.none)], []))
  | a, s => F a s γ K
def T_types_all (x_slices_ContainsFunc_int_int : Ty_slices_ContainsFunc_int_int) : CallK := (addK noneK 78 (P_slices_ContainsFunc_int_int x_slices_ContainsFunc_int_int none3))
def L_types_all (x_slices_ContainsFunc_int_int : Ty_slices_ContainsFunc_int_int) : LoopK := noneL
def Sp.B_types_all (x_slices_ContainsFunc_int_int : Ty_slices_ContainsFunc_int_int) (v_l : List (List Dat)) (v_want : Int) (γ : Type) (K : Bool → Option γ) : Option γ := x_slices_ContainsFunc_int_int v_l v_want γ fun z4 z5 => K !z4
theorem e_types_all (p : Par) (x_slices_ContainsFunc_int_int v_l v_want) (γ : Type) (K : List Ent × Sig → Option γ) : evFK (cfg p) (T_types_all x_slices_ContainsFunc_int_int) (L_types_all x_slices_ContainsFunc_int_int) 56 [dat (sl v_l), dat (int i64 v_want)] [] γ K = Sp.B_types_all x_slices_ContainsFunc_int_int v_l v_want γ (fun r0 => K ([(dat (Dat.bool r0), Own.none)], [])) := by kernel_rfl
def Sp.types_all : Ty_types_all := Sp.B_types_all Sp.slices_ContainsFunc_int_int
theorem E_types_all (p : Par) {F : Ent3} (hF : EntOk (cfg p) 56 F) : EntOk (cfg p) 56 (P_types_all Sp.types_all F) := by
  intro a s γ K q h
  unfold P_types_all at h
  split at h
  · exact body_ok (tab_call (tab_nil _) (E_slices_ContainsFunc_int_int p (ent_none _ _))) rfl ((e_types_all p _ _ _ _ _).trans h)
  · exact hF _ _ _ _ _ h
abbrev Ty_types_agg : Type 1 := Int → List (List Dat) → (γ : Type) → (Int → Bool → Option γ) → Option γ
def P_types_agg (X : Ty_types_agg) (F : Ent3) : Ent3 := fun a s γ K => match a, s with
  | [dat (int i64 v_n), dat (sl v_l)], [] => X v_n v_l γ (fun r0 r1 => K ([(dat (int i64 r0), Own.none), (dat (Dat.bool r1), Own.none)], []))
  | a, s => F a s γ K
def T_types_agg (x_types_all : Ty_types_all) : CallK := (addK noneK 56 (P_types_all x_types_all none3))
def L_types_agg (x_types_all : Ty_types_all) : LoopK := noneL
def Sp.B_types_agg (x_types_all : Ty_types_all) (v_n : Int) (v_l : List (List Dat)) (γ : Type) (K : Int → Bool → Option γ) : Option γ := bif decide (v_n = 1) then bif decide (v_n = 1) then K 2 true else bif decide (v_n = 3) then x_types_all v_l 2 γ fun z4 => K 2 z4 else elemAt v_l 0 fun z5 => bif List.length z5 == 1 then cellAt z5 0 fun z6 => Aev.asInt i64 z6 fun z7 => K z7 true else none else bif decide (v_n = 2) then K 2 true else bif decide (v_n = 3) then x_types_all v_l 2 γ fun z8 => K 2 z8 else elemAt v_l 0 fun z9 => bif List.length z9 == 1 then cellAt z9 0 fun z10 => Aev.asInt i64 z10 fun z11 => K z11 true else none
theorem e_types_agg (p : Par) (x_types_all v_n v_l) (γ : Type) (K : List Ent × Sig → Option γ) : evFK (cfg p) (T_types_agg x_types_all) (L_types_agg x_types_all) 48 [dat (int i64 v_n), dat (sl v_l)] [] γ K = Sp.B_types_agg x_types_all v_n v_l γ (fun r0 r1 => K ([(dat (int i64 r0), Own.none), (dat (Dat.bool r1), Own.none)], [])) := by kernel_rfl
def Sp.types_agg : Ty_types_agg := Sp.B_types_agg Sp.types_all
theorem E_types_agg (p : Par) {F : Ent3} (hF : EntOk (cfg p) 48 F) : EntOk (cfg p) 48 (P_types_agg Sp.types_agg F) := by
  intro a s γ K q h
  unfold P_types_agg at h
  split at h
  · exact body_ok (tab_call (tab_nil _) (E_types_all p (ent_none _ _))) rfl ((e_types_agg p _ _ _ _ _).trans h)
  · exact hF _ _ _ _ _ h
abbrev Ty_types_op : Type 1 := Int → List (List Dat) → (γ : Type) → (Int → Bool → Option γ) → Option γ
def P_types_op (X : Ty_types_op) (F : Ent3) : Ent3 := fun a s γ K => match a, s with
  | [dat (int i64 v_n), dat (sl v_l)], [] => X v_n v_l γ (fun r0 r1 => K ([(dat (int i64 r0), Own.none), (dat (Dat.bool r1), Own.none)], []))
  | a, s => F a s γ K
def T_types_op (x_types_all : Ty_types_all) : CallK := (addK noneK 56 (P_types_all x_types_all none3))
def L_types_op (x_types_all : Ty_types_all) : LoopK := noneL
def Sp.B_types_op (x_types_all : Ty_types_all) (v_n : Int) (v_l : List (List Dat)) (γ : Type) (K : Int → Bool → Option γ) : Option γ := bif decide (v_n ≤ 3) then x_types_all v_l 1 γ fun z4 => K 1 z4 else bif decide (v_n ≤ 9) then elemAt v_l 0 fun z5 => bif List.length z5 == 1 then cellAt z5 0 fun z6 => Aev.asInt i64 z6 fun z7 => elemAt v_l 1 fun z8 => bif List.length z8 == 1 then cellAt z8 0 fun z9 => Aev.asInt i64 z9 fun z10 => bif decide (z7 = z10) then K 1 true else elemAt v_l 0 fun z11 => bif List.length z11 == 1 then cellAt z11 0 fun z12 => Aev.asInt i64 z12 fun z13 => bif decide (z13 = 0) then K 1 true else elemAt v_l 1 fun z14 => bif List.length z14 == 1 then cellAt z14 0 fun z15 => Aev.asInt i64 z15 fun z16 => K 1 (decide (z16 = 0)) else none else none else none else none else bif decide (v_n ≤ 15) then x_types_all v_l 2 γ fun z17 => K 2 z17 else K 1 true
theorem e_types_op (p : Par) (x_types_all v_n v_l) (γ : Type) (K : List Ent × Sig → Option γ) : evFK (cfg p) (T_types_op x_types_all) (L_types_op x_types_all) 47 [dat (int i64 v_n), dat (sl v_l)] [] γ K = Sp.B_types_op x_types_all v_n v_l γ (fun r0 r1 => K ([(dat (int i64 r0), Own.none), (dat (Dat.bool r1), Own.none)], [])) := by kernel_rfl
def Sp.types_op : Ty_types_op := Sp.B_types_op Sp.types_all
theorem E_types_op (p : Par) {F : Ent3} (hF : EntOk (cfg p) 47 F) : EntOk (cfg p) 47 (P_types_op Sp.types_op F) := by
  intro a s γ K q h
  unfold P_types_op at h
  split at h
  · exact body_ok (tab_call (tab_nil _) (E_types_all p (ent_none _ _))) rfl ((e_types_op p _ _ _ _ _).trans h)
  · exact hF _ _ _ _ _ h
abbrev Ty_types_kind : Type 1 := Int → Int → Int → Int → ByteArray → ByteArray → ByteArray → List (List Dat) → List (List Dat) → (γ : Type) → (Int → Dat → Option γ) → Option γ
def P_types_kind (X : Ty_types_kind) (F : Ent3) : Ent3 := fun a s γ K => match a, s with
  | [agg [(int i64 v_e0, Own.none), (int i64 v_e1, Own.none), (int i64 v_e2, Own.none), (int i64 v_e3, Own.none), (str v_e4, Own.none), (str v_e5, Own.none), (str v_e6, Own.none), (sl v_e7, Own.none)], dat (sl v_cols)], [] => X v_e0 v_e1 v_e2 v_e3 v_e4 v_e5 v_e6 v_e7 v_cols γ (fun r0 r1 => K ([(dat (int i64 r0), Own.none), (dat r1, Own.none)], []))
  | a, s => F a s γ K
abbrev Ty_types_kind_L1 : Type 1 := List (List Dat) → List (List Dat) → Int → Int → Dat → List (List Dat) → Int → Int → Int → Int → Int → ByteArray → ByteArray → ByteArray → List (List Dat) → (γ : Type) → (Ex → Int → Dat → List (List Dat) → Int → Int → Int → Int → Int → ByteArray → ByteArray → ByteArray → List (List Dat) → Option γ) → Option γ
def P_types_kind_L1 (X : Ty_types_kind_L1) (F : Loop3) : Loop3 := fun a s γ K => match a, s with
  | [dat (sl v_cols), AVal.loc 2 0, dat (sl v_), dat (int i64 v__1)], ([dat (int i64 v__2), dat v__3, dat (sl v_l), dat (int i64 v__4), agg [(int i64 w0, Own.none), (int i64 w1, Own.none), (int i64 w2, Own.none), (int i64 w3, Own.none), (str w4, Own.none), (str w5, Own.none), (str w6, Own.none), (sl w7, Own.none)]], []) => X v_cols v_ v__1 v__2 v__3 v_l v__4 w0 w1 w2 w3 w4 w5 w6 w7 γ (fun e x0 x1 x2 x3 x4 x5 x6 x7 x8 x9 x10 x11 => K (e, ([dat (int i64 x0), dat x1, dat (sl x2), dat (int i64 x3), agg [(int i64 x4, Own.none), (int i64 x5, Own.none), (int i64 x6, Own.none), (int i64 x7, Own.none), (str x8, Own.none), (str x9, Own.none), (str x10, Own.none), (sl x11, Own.none)]], [])))
  | a, s => F a s γ K
def T_types_kind_L1 (x_types_kind : Ty_types_kind) : CallK := (addK noneK 35 (P_types_kind x_types_kind none3))
def L_types_kind_L1 (x_types_kind : Ty_types_kind) : LoopK := noneL
def Sp.B_types_kind_L1 (x_types_kind_L1 : Ty_types_kind_L1) (x_types_kind : Ty_types_kind) (v_cols v_ : List (List Dat)) (v__1 v__2 : Int) (v__3 : Dat) (v_l : List (List Dat)) (v__4 w0 w1 w2 w3 : Int) (w4 w5 w6 : ByteArray) (w7 : List (List Dat)) (γ : Type) (K : Ex → Int → Dat → List (List Dat) → Int → Int → Int → Int → Int → ByteArray → ByteArray → ByteArray → List (List Dat) → Option γ) : Option γ := bif isIfc v__3 then bif sized v_l 1 then bif decide (v__4 < v__1) then elemAt v_ v__4 fun z17 => bif List.length z17 == 8 then cellAt z17 0 fun z18 => Aev.asInt i64 z18 fun z19 => cellAt z17 1 fun z20 => Aev.asInt i64 z20 fun z21 => cellAt z17 2 fun z22 => Aev.asInt i64 z22 fun z23 => cellAt z17 3 fun z24 => Aev.asInt i64 z24 fun z25 => cellAt z17 4 fun z26 => asStr z26 fun z27 => cellAt z17 5 fun z28 => asStr z28 fun z29 => cellAt z17 6 fun z30 => asStr z30 fun z31 => cellAt z17 7 fun z32 => asSl z32 fun z33 => x_types_kind z19 z21 z23 z25 z27 z29 z31 z33 v_cols γ fun z34 z35 => bif isIfc z35 then bif isIfc z35 then bif !isNilI z35 then K Ex.ret 0 z35 v_l v__4 w0 w1 w2 w3 w4 w5 w6 w7 else bif sized v_l 1 && true && true && decide ((List.length v_l + 1) * 9 ≤ 70368744177664) && true then x_types_kind_L1 v_cols v_ v__1 v__2 v__3 (v_l ++ [[int i64 z34]]) (IntKind.wrap i64 (v__4 + 1)) w0 w1 w2 w3 w4 w5 w6 w7 γ K else none else none else none else none else K (Ex.exit 1) v__2 v__3 v_l v__4 w0 w1 w2 w3 w4 w5 w6 w7 else none else none
theorem e_types_kind_L1 (p : Par) (x_types_kind_L1 : Ty_types_kind_L1) (x_types_kind v_cols v_ v__1 v__2 v__3 v_l v__4 w0 w1 w2 w3 w4 w5 w6 w7) (γ : Type) (K : Ex × Vars → Option γ) : roundK (cfg p) (T_types_kind_L1 x_types_kind) (L_types_kind_L1 x_types_kind) 35 1 [dat (sl v_cols), AVal.loc 2 0, dat (sl v_), dat (int i64 v__1)] ([dat (int i64 v__2), dat v__3, dat (sl v_l), dat (int i64 v__4), agg [(int i64 w0, Own.none), (int i64 w1, Own.none), (int i64 w2, Own.none), (int i64 w3, Own.none), (str w4, Own.none), (str w5, Own.none), (str w6, Own.none), (sl w7, Own.none)]], []) γ (contL (fun v => P_types_kind_L1 x_types_kind_L1 noneL3 [dat (sl v_cols), AVal.loc 2 0, dat (sl v_), dat (int i64 v__1)] v γ K) K) = Sp.B_types_kind_L1 x_types_kind_L1 x_types_kind v_cols v_ v__1 v__2 v__3 v_l v__4 w0 w1 w2 w3 w4 w5 w6 w7 γ (fun e x0 x1 x2 x3 x4 x5 x6 x7 x8 x9 x10 x11 => K (e, ([dat (int i64 x0), dat x1, dat (sl x2), dat (int i64 x3), agg [(int i64 x4, Own.none), (int i64 x5, Own.none), (int i64 x6, Own.none), (int i64 x7, Own.none), (str x8, Own.none), (str x9, Own.none), (str x10, Own.none), (sl x11, Own.none)]], []))) := by kernel_rfl
def T_types_kind (x_types_kind_L1 : Ty_types_kind_L1) (x_types_agg : Ty_types_agg) (x_types_op : Ty_types_op) : CallK := (addK (addK noneK 48 (P_types_agg x_types_agg none3)) 47 (P_types_op x_types_op none3))
def L_types_kind (x_types_kind_L1 : Ty_types_kind_L1) (x_types_agg : Ty_types_agg) (x_types_op : Ty_types_op) : LoopK := (addL noneL 35 1 (P_types_kind_L1 x_types_kind_L1 noneL3))
def Sp.B_types_kind (x_types_kind_L1 : Ty_types_kind_L1) (x_types_agg : Ty_types_agg) (x_types_op : Ty_types_op) (v_e0 v_e1 v_e2 v_e3 : Int) (v_e4 v_e5 v_e6 : ByteArray) (v_e7 v_cols : List (List Dat)) (γ : Type) (K : Int → Dat → Option γ) : Option γ := bif decide (v_e0 = 1) then K v_e2 Dat.nilI else bif decide (v_e0 = 2) then bif decide (Int.ofNat (List.length v_cols) ≤ v_e1) then K 0 (Dat.ifp 79 [int i64 140]) else elemAt v_cols v_e1 fun z11 => bif List.length z11 == 3 then cellAt (List.drop 2 z11) 0 fun z12 => Aev.asInt i64 z12 fun z13 => K z13 Dat.nilI else none else x_types_kind_L1 v_cols v_e7 (Int.ofNat (List.length v_e7)) 0 Dat.nilI [] 0 v_e0 v_e1 v_e2 v_e3 v_e4 v_e5 v_e6 v_e7 γ fun z14 z15 z16 z17 z18 z19 z20 z21 z22 z23 z24 z25 z26 => bif isIfc z16 then bif sized z17 1 then bif Ex.isExit z14 1 then bif decide (z19 = 4) then x_types_agg z20 z17 γ fun z27 z28 => bif !z28 then K 0 (Dat.ifp 79 [int i64 141]) else K z27 Dat.nilI else x_types_op z20 z17 γ fun z29 z30 => bif !z30 then K 0 (Dat.ifp 79 [int i64 141]) else K z29 Dat.nilI else bif Ex.isRet z14 then K z15 z16 else none else none else none
theorem e_types_kind (p : Par) (x_types_kind_L1 x_types_agg x_types_op v_e0 v_e1 v_e2 v_e3 v_e4 v_e5 v_e6 v_e7 v_cols) (γ : Type) (K : List Ent × Sig → Option γ) : evFK (cfg p) (T_types_kind x_types_kind_L1 x_types_agg x_types_op) (L_types_kind x_types_kind_L1 x_types_agg x_types_op) 35 [agg [(int i64 v_e0, Own.none), (int i64 v_e1, Own.none), (int i64 v_e2, Own.none), (int i64 v_e3, Own.none), (str v_e4, Own.none), (str v_e5, Own.none), (str v_e6, Own.none), (sl v_e7, Own.none)], dat (sl v_cols)] [] γ K = Sp.B_types_kind x_types_kind_L1 x_types_agg x_types_op v_e0 v_e1 v_e2 v_e3 v_e4 v_e5 v_e6 v_e7 v_cols γ (fun r0 r1 => K ([(dat (int i64 r0), Own.none), (dat r1, Own.none)], [])) := by kernel_rfl
def Sp.types_kind_L1 (R_types_kind : Ty_types_kind) : Nat → Ty_types_kind_L1
  | 0 => fun _ _ _ _ _ _ _ _ _ _ _ _ _ _ _ _ _ => none
  | n + 1 => Sp.B_types_kind_L1 (Sp.types_kind_L1 R_types_kind n) R_types_kind
theorem E0_types_kind_L1 (p : Par) (R_types_kind : Ty_types_kind) (h_types_kind : ∀ {F : Ent3}, EntOk (cfg p) 35 F → EntOk (cfg p) 35 (P_types_kind R_types_kind F)) : ∀ n, EntOkL (cfg p) 35 1 (P_types_kind_L1 (Sp.types_kind_L1 R_types_kind n) noneL3) := entL_rounds (tab_call (tab_nil _) (h_types_kind (ent_none _ _))) (by kernel_rfl) (fun c v γ K => by unfold P_types_kind_L1; split <;> rfl) fun n c v γ K q h => by
  unfold P_types_kind_L1 at h
  split at h
  · exact (e_types_kind_L1 p _ _ _ _ _ _ _ _ _ _ _ _ _ _ _ _ _ _ _).trans h
  · cases h
theorem E_types_kind_L1 (p : Par) (R_types_kind : Ty_types_kind) (h_types_kind : ∀ {F : Ent3}, EntOk (cfg p) 35 F → EntOk (cfg p) 35 (P_types_kind R_types_kind F)) (n : Nat) {F : Loop3} (hF : EntOkL (cfg p) 35 1 F) : EntOkL (cfg p) 35 1 (P_types_kind_L1 (Sp.types_kind_L1 R_types_kind n) F) := by
  intro c v γ K q h
  unfold P_types_kind_L1 at h
  split at h
  · exact E0_types_kind_L1 p R_types_kind h_types_kind n _ _ _ _ _ h
  · exact hF _ _ _ _ _ h
def Sp.types_kind : Nat → Ty_types_kind
  | 0 => fun _ _ _ _ _ _ _ _ _ _ _ => none
  | n + 1 => Sp.B_types_kind (Sp.types_kind_L1 (Sp.types_kind n) fuel) Sp.types_agg Sp.types_op
theorem G42_ok (p : Par) (n : Nat) : (∀ {F : Ent3}, EntOk (cfg p) 35 F → EntOk (cfg p) 35 (P_types_kind (Sp.types_kind n) F)) := by
  induction n with
  | zero =>
    refine ?_
    · intro F hF a s γ K q h
      unfold P_types_kind at h
      split at h
      · cases h
      · exact hF _ _ _ _ _ h
  | succ n ih =>
    refine ?_
    · intro F hF a s γ K q h
      unfold P_types_kind at h
      split at h
      · exact body_ok (tab_loop (tab_call (tab_call (tab_nil _) (E_types_agg p (ent_none _ _))) (E_types_op p (ent_none _ _))) (E_types_kind_L1 p (Sp.types_kind n) ih fuel (entL_none _ _ _))) rfl ((e_types_kind p _ _ _ _ _ _ _ _ _ _ _ _ _ _).trans h)
      · exact hF _ _ _ _ _ h
theorem E_types_kind (p : Par) (n : Nat) {F : Ent3} (hF : EntOk (cfg p) 35 F) : EntOk (cfg p) 35 (P_types_kind (Sp.types_kind n) F) := (G42_ok p n) hF
abbrev Ty_types_Type : Type 1 := Int → Int → Int → Int → ByteArray → ByteArray → ByteArray → List (List Dat) → List (List Dat) → (γ : Type) → (Int → Int → Option γ) → Option γ
def P_types_Type (X : Ty_types_Type) (F : Ent3) : Ent3 := fun a s γ K => match a, s with
  | [agg [(int i64 v_e0, Own.none), (int i64 v_e1, Own.none), (int i64 v_e2, Own.none), (int i64 v_e3, Own.none), (str v_e4, Own.none), (str v_e5, Own.none), (str v_e6, Own.none), (sl v_e7, Own.none)], dat (sl v_cols)], [] => X v_e0 v_e1 v_e2 v_e3 v_e4 v_e5 v_e6 v_e7 v_cols γ (fun r0 r1 => K ([(dat (int i64 r0), Own.none), (dat (int i64 r1), Own.none)], []))
  | a, s => F a s γ K
def T_types_Type (x_expr_Check : Ty_expr_Check) (x_types_kind : Ty_types_kind) (x_types_number : Ty_types_number) : CallK := (addK (addK (addK noneK 34 (P_expr_Check x_expr_Check none3)) 35 (P_types_kind x_types_kind none3)) 36 (P_types_number x_types_number none3))
def L_types_Type (x_expr_Check : Ty_expr_Check) (x_types_kind : Ty_types_kind) (x_types_number : Ty_types_number) : LoopK := noneL
def Sp.B_types_Type (x_expr_Check : Ty_expr_Check) (x_types_kind : Ty_types_kind) (x_types_number : Ty_types_number) (v_e0 v_e1 v_e2 v_e3 : Int) (v_e4 v_e5 v_e6 : ByteArray) (v_e7 v_cols : List (List Dat)) (γ : Type) (K : Int → Int → Option γ) : Option γ := x_expr_Check v_e0 v_e1 v_e2 v_e3 v_e4 v_e5 v_e6 v_e7 γ fun z11 => bif !decide (z11 = 0) then K 0 z11 else x_types_kind v_e0 v_e1 v_e2 v_e3 v_e4 v_e5 v_e6 v_e7 v_cols γ fun z12 z13 => bif isIfc z13 then x_types_number z13 γ fun z14 => K z12 z14 else none
theorem e_types_Type (p : Par) (x_expr_Check x_types_kind x_types_number v_e0 v_e1 v_e2 v_e3 v_e4 v_e5 v_e6 v_e7 v_cols) (γ : Type) (K : List Ent × Sig → Option γ) : evFK (cfg p) (T_types_Type x_expr_Check x_types_kind x_types_number) (L_types_Type x_expr_Check x_types_kind x_types_number) 15 [agg [(int i64 v_e0, Own.none), (int i64 v_e1, Own.none), (int i64 v_e2, Own.none), (int i64 v_e3, Own.none), (str v_e4, Own.none), (str v_e5, Own.none), (str v_e6, Own.none), (sl v_e7, Own.none)], dat (sl v_cols)] [] γ K = Sp.B_types_Type x_expr_Check x_types_kind x_types_number v_e0 v_e1 v_e2 v_e3 v_e4 v_e5 v_e6 v_e7 v_cols γ (fun r0 r1 => K ([(dat (int i64 r0), Own.none), (dat (int i64 r1), Own.none)], [])) := by kernel_rfl
def Sp.types_Type : Ty_types_Type := Sp.B_types_Type Sp.expr_Check (Sp.types_kind fuel) Sp.types_number
theorem E_types_Type (p : Par) {F : Ent3} (hF : EntOk (cfg p) 15 F) : EntOk (cfg p) 15 (P_types_Type Sp.types_Type F) := by
  intro a s γ K q h
  unfold P_types_Type at h
  split at h
  · exact body_ok (tab_call (tab_call (tab_call (tab_nil _) (E_expr_Check p (ent_none _ _))) (E_types_kind p fuel (ent_none _ _))) (E_types_number p (ent_none _ _))) rfl ((e_types_Type p _ _ _ _ _ _ _ _ _ _ _ _ _ _).trans h)
  · exact hF _ _ _ _ _ h
abbrev Ty_types_Move_1 : Type 1 := Int → Int → Int → Int → ByteArray → ByteArray → ByteArray → List (List Dat) → List (List Dat) → (γ : Type) → (Int → Int → List (List Dat) → Option γ) → Option γ
def P_types_Move_1 (X : Ty_types_Move_1) (F : Ent3) : Ent3 := fun a s γ K => match a, s with
  | [agg [(int i64 v_c0, Own.none), (int i64 v_c1, Own.none), (int i64 v_c2, Own.none), (int i64 v_c3, Own.none), (str v_c4, Own.none), (str v_c5, Own.none), (str v_c6, Own.none), (sl v_c7, Own.none)], AVal.ref 0 0], [Box.cells [dat (sl b)]] => X v_c0 v_c1 v_c2 v_c3 v_c4 v_c5 v_c6 v_c7 b γ (fun r0 r1 r2 => K ([(dat (int i64 r0), Own.none), (dat (int i64 r1), Own.none)], [Box.cells [dat (sl r2)]]))
  | a, s => F a s γ K
def T_types_Move_1 : CallK := noneK
def L_types_Move_1 : LoopK := noneL
def Sp.B_types_Move_1 (v_c0 v_c1 v_c2 v_c3 : Int) (v_c4 v_c5 v_c6 : ByteArray) (v_c7 b : List (List Dat)) (γ : Type) (K : Int → Int → List (List Dat) → Option γ) : Option γ := bif decide (Int.ofNat (List.length b) ≤ v_c1) then K 0 140 b else elemAt b v_c1 fun z11 => bif List.length z11 == 1 then cellAt z11 0 fun z12 => Aev.asInt i64 z12 fun z13 => bif decide (z13 < 0) then K 0 140 b else elemAt b v_c1 fun z14 => bif List.length z14 == 1 then cellAt z14 0 fun z15 => Aev.asInt i64 z15 fun z16 => bif decide (32 ≤ z16) then K 0 140 b else elemAt b v_c1 fun z17 => bif List.length z17 == 1 then cellAt z17 0 fun z18 => Aev.asInt i64 z18 fun z19 => K z19 0 b else none else none else none
theorem e_types_Move_1 (p : Par) (v_c0 v_c1 v_c2 v_c3 v_c4 v_c5 v_c6 v_c7 b) (γ : Type) (K : List Ent × Sig → Option γ) : evFK (cfg p) (T_types_Move_1) (L_types_Move_1) 38 [agg [(int i64 v_c0, Own.none), (int i64 v_c1, Own.none), (int i64 v_c2, Own.none), (int i64 v_c3, Own.none), (str v_c4, Own.none), (str v_c5, Own.none), (str v_c6, Own.none), (sl v_c7, Own.none)], AVal.ref 0 0] [Box.cells [dat (sl b)]] γ K = Sp.B_types_Move_1 v_c0 v_c1 v_c2 v_c3 v_c4 v_c5 v_c6 v_c7 b γ (fun r0 r1 r2 => K ([(dat (int i64 r0), Own.none), (dat (int i64 r1), Own.none)], [Box.cells [dat (sl r2)]])) := by kernel_rfl
def Sp.types_Move_1 : Ty_types_Move_1 := Sp.B_types_Move_1 
theorem E_types_Move_1 (p : Par) {F : Ent3} (hF : EntOk (cfg p) 38 F) : EntOk (cfg p) 38 (P_types_Move_1 Sp.types_Move_1 F) := by
  intro a s γ K q h
  unfold P_types_Move_1 at h
  split at h
  · exact body_ok (tab_nil _) rfl ((e_types_Move_1 p _ _ _ _ _ _ _ _ _ _ _).trans h)
  · exact hF _ _ _ _ _ h
abbrev Ty_types_each'1 : Type 1 := Int → Int → Int → Int → ByteArray → ByteArray → ByteArray → List (List Dat) → List (List Dat) → (γ : Type) → (Int → Int → Int → Int → ByteArray → ByteArray → ByteArray → List (List Dat) → Dat → List (List Dat) → Option γ) → Option γ
def P_types_each'1 (X : Ty_types_each'1) (F : Ent3) : Ent3 := fun a s γ K => match a, s with
  | [agg [(int i64 v_e0, Own.none), (int i64 v_e1, Own.none), (int i64 v_e2, Own.none), (int i64 v_e3, Own.none), (str v_e4, Own.none), (str v_e5, Own.none), (str v_e6, Own.none), (sl v_e7, Own.none)], AVal.clo (Fn.func 38) [] [AVal.ref 0 0]], [Box.cells [dat (sl b)]] => X v_e0 v_e1 v_e2 v_e3 v_e4 v_e5 v_e6 v_e7 b γ (fun r0 r1 r2 r3 r4 r5 r6 r7 r8 r9 => K ([(agg [(int i64 r0, Own.none), (int i64 r1, Own.none), (int i64 r2, Own.none), (int i64 r3, Own.none), (str r4, Own.none), (str r5, Own.none), (str r6, Own.none), (sl r7, Own.none)], Own.none), (dat r8, Own.none)], [Box.cells [dat (sl r9)]]))
  | a, s => F a s γ K
abbrev Ty_types_each_L0'1 : Type 1 := List (List Dat) → Int → Dat → Int → Int → Int → Int → Int → ByteArray → ByteArray → ByteArray → List (List Dat) → Int → Int → Int → Int → ByteArray → ByteArray → ByteArray → List (List Dat) → List (List Dat) → (γ : Type) → (Ex → Dat → Int → Int → Int → Int → Int → ByteArray → ByteArray → ByteArray → List (List Dat) → Int → Int → Int → Int → ByteArray → ByteArray → ByteArray → List (List Dat) → List (List Dat) → Option γ) → Option γ
def P_types_each_L0'1 (X : Ty_types_each_L0'1) (F : Loop3) : Loop3 := fun a s γ K => match a, s with
  | [AVal.clo (Fn.func 38) [] [AVal.ref 0 0], AVal.loc 2 0, AVal.loc 4 0, dat (sl v_), dat (int i64 v__1)], ([dat v__2, dat (int i64 v__3), agg [(int i64 w0, Own.none), (int i64 w1, Own.none), (int i64 w2, Own.none), (int i64 w3, Own.none), (str w4, Own.none), (str w5, Own.none), (str w6, Own.none), (sl w7, Own.none)], agg [(int i64 w0_1, Own.none), (int i64 w1_1, Own.none), (int i64 w2_1, Own.none), (int i64 w3_1, Own.none), (str w4_1, Own.none), (str w5_1, Own.none), (str w6_1, Own.none), (sl w7_1, Own.none)]], [Box.cells [dat (sl b)]]) => X v_ v__1 v__2 v__3 w0 w1 w2 w3 w4 w5 w6 w7 w0_1 w1_1 w2_1 w3_1 w4_1 w5_1 w6_1 w7_1 b γ (fun e x0 x1 x2 x3 x4 x5 x6 x7 x8 x9 x10 x11 x12 x13 x14 x15 x16 x17 x18 => K (e, ([dat x0, dat (int i64 x1), agg [(int i64 x2, Own.none), (int i64 x3, Own.none), (int i64 x4, Own.none), (int i64 x5, Own.none), (str x6, Own.none), (str x7, Own.none), (str x8, Own.none), (sl x9, Own.none)], agg [(int i64 x10, Own.none), (int i64 x11, Own.none), (int i64 x12, Own.none), (int i64 x13, Own.none), (str x14, Own.none), (str x15, Own.none), (str x16, Own.none), (sl x17, Own.none)]], [Box.cells [dat (sl x18)]])))
  | a, s => F a s γ K
def T_types_each_L0'1 (x_types_each'1 : Ty_types_each'1) : CallK := (addK noneK 44 (P_types_each'1 x_types_each'1 none3))
def L_types_each_L0'1 (x_types_each'1 : Ty_types_each'1) : LoopK := noneL
def Sp.B_types_each_L0'1 (x_types_each_L0'1 : Ty_types_each_L0'1) (x_types_each'1 : Ty_types_each'1) (v_ : List (List Dat)) (v__1 : Int) (v__2 : Dat) (v__3 w0 w1 w2 w3 : Int) (w4 w5 w6 : ByteArray) (w7 : List (List Dat)) (w0_1 w1_1 w2_1 w3_1 : Int) (w4_1 w5_1 w6_1 : ByteArray) (w7_1 b : List (List Dat)) (γ : Type) (K : Ex → Dat → Int → Int → Int → Int → Int → ByteArray → ByteArray → ByteArray → List (List Dat) → Int → Int → Int → Int → ByteArray → ByteArray → ByteArray → List (List Dat) → List (List Dat) → Option γ) : Option γ := bif isIfc v__2 then bif decide (v__3 < v__1) then elemAt v_ v__3 fun z23 => bif List.length z23 == 8 then cellAt z23 0 fun z24 => Aev.asInt i64 z24 fun z25 => cellAt z23 1 fun z26 => Aev.asInt i64 z26 fun z27 => cellAt z23 2 fun z28 => Aev.asInt i64 z28 fun z29 => cellAt z23 3 fun z30 => Aev.asInt i64 z30 fun z31 => cellAt z23 4 fun z32 => asStr z32 fun z33 => cellAt z23 5 fun z34 => asStr z34 fun z35 => cellAt z23 6 fun z36 => asStr z36 fun z37 => cellAt z23 7 fun z38 => asSl z38 fun z39 => x_types_each'1 z25 z27 z29 z31 z33 z35 z37 z39 b γ fun z40 z41 z42 z43 z44 z45 z46 z47 z48 z49 => bif isIfc z48 then bif isIfc z48 then bif !isNilI z48 then K Ex.ret z48 v__3 w0 w1 w2 w3 w4 w5 w6 w7 0 0 0 0 (bs []) (bs []) (bs []) [] z49 else bif sized w7 8 && true && true && decide ((List.length w7 + 1) * 105 ≤ 70368744177664) && true then x_types_each_L0'1 v_ v__1 v__2 (IntKind.wrap i64 (v__3 + 1)) w0 w1 w2 w3 w4 w5 w6 (w7 ++ [[int i64 z40, int i64 z41, int i64 z42, int i64 z43, str z44, str z45, str z46, sl z47]]) w0_1 w1_1 w2_1 w3_1 w4_1 w5_1 w6_1 w7_1 z49 γ K else none else none else none else none else K (Ex.exit 0) v__2 v__3 w0 w1 w2 w3 w4 w5 w6 w7 w0_1 w1_1 w2_1 w3_1 w4_1 w5_1 w6_1 w7_1 b else none
theorem e_types_each_L0'1 (p : Par) (x_types_each_L0'1 : Ty_types_each_L0'1) (x_types_each'1 v_ v__1 v__2 v__3 w0 w1 w2 w3 w4 w5 w6 w7 w0_1 w1_1 w2_1 w3_1 w4_1 w5_1 w6_1 w7_1 b) (γ : Type) (K : Ex × Vars → Option γ) : roundK (cfg p) (T_types_each_L0'1 x_types_each'1) (L_types_each_L0'1 x_types_each'1) 44 0 [AVal.clo (Fn.func 38) [] [AVal.ref 0 0], AVal.loc 2 0, AVal.loc 4 0, dat (sl v_), dat (int i64 v__1)] ([dat v__2, dat (int i64 v__3), agg [(int i64 w0, Own.none), (int i64 w1, Own.none), (int i64 w2, Own.none), (int i64 w3, Own.none), (str w4, Own.none), (str w5, Own.none), (str w6, Own.none), (sl w7, Own.none)], agg [(int i64 w0_1, Own.none), (int i64 w1_1, Own.none), (int i64 w2_1, Own.none), (int i64 w3_1, Own.none), (str w4_1, Own.none), (str w5_1, Own.none), (str w6_1, Own.none), (sl w7_1, Own.none)]], [Box.cells [dat (sl b)]]) γ (contL (fun v => P_types_each_L0'1 x_types_each_L0'1 noneL3 [AVal.clo (Fn.func 38) [] [AVal.ref 0 0], AVal.loc 2 0, AVal.loc 4 0, dat (sl v_), dat (int i64 v__1)] v γ K) K) = Sp.B_types_each_L0'1 x_types_each_L0'1 x_types_each'1 v_ v__1 v__2 v__3 w0 w1 w2 w3 w4 w5 w6 w7 w0_1 w1_1 w2_1 w3_1 w4_1 w5_1 w6_1 w7_1 b γ (fun e x0 x1 x2 x3 x4 x5 x6 x7 x8 x9 x10 x11 x12 x13 x14 x15 x16 x17 x18 => K (e, ([dat x0, dat (int i64 x1), agg [(int i64 x2, Own.none), (int i64 x3, Own.none), (int i64 x4, Own.none), (int i64 x5, Own.none), (str x6, Own.none), (str x7, Own.none), (str x8, Own.none), (sl x9, Own.none)], agg [(int i64 x10, Own.none), (int i64 x11, Own.none), (int i64 x12, Own.none), (int i64 x13, Own.none), (str x14, Own.none), (str x15, Own.none), (str x16, Own.none), (sl x17, Own.none)]], [Box.cells [dat (sl x18)]]))) := by kernel_rfl
def T_types_each'1 (x_types_Move_1 : Ty_types_Move_1) (x_types_each_L0'1 : Ty_types_each_L0'1) : CallK := (addK noneK 38 (P_types_Move_1 x_types_Move_1 none3))
def L_types_each'1 (x_types_Move_1 : Ty_types_Move_1) (x_types_each_L0'1 : Ty_types_each_L0'1) : LoopK := (addL noneL 44 0 (P_types_each_L0'1 x_types_each_L0'1 noneL3))
def Sp.B_types_each'1 (x_types_Move_1 : Ty_types_Move_1) (x_types_each_L0'1 : Ty_types_each_L0'1) (v_e0 v_e1 v_e2 v_e3 : Int) (v_e4 v_e5 v_e6 : ByteArray) (v_e7 b : List (List Dat)) (γ : Type) (K : Int → Int → Int → Int → ByteArray → ByteArray → ByteArray → List (List Dat) → Dat → List (List Dat) → Option γ) : Option γ := bif decide (v_e0 = 2) then x_types_Move_1 v_e0 v_e1 v_e2 v_e3 v_e4 v_e5 v_e6 v_e7 b γ fun z11 z12 z13 => bif !decide (z12 = 0) then K 0 0 0 0 (bs []) (bs []) (bs []) [] (Dat.ifp 79 [int i64 z12]) z13 else x_types_each_L0'1 v_e7 (Int.ofNat (List.length v_e7)) Dat.nilI 0 v_e0 z11 v_e2 v_e3 v_e4 v_e5 v_e6 [] 0 0 0 0 (bs []) (bs []) (bs []) [] z13 γ fun z14 z15 z16 z17 z18 z19 z20 z21 z22 z23 z24 z25 z26 z27 z28 z29 z30 z31 z32 z33 => bif isIfc z15 then bif Ex.isExit z14 0 then K z17 z18 z19 z20 z21 z22 z23 z24 Dat.nilI z33 else bif Ex.isRet z14 then K z25 z26 z27 z28 z29 z30 z31 z32 z15 z33 else none else none else x_types_each_L0'1 v_e7 (Int.ofNat (List.length v_e7)) Dat.nilI 0 v_e0 v_e1 v_e2 v_e3 v_e4 v_e5 v_e6 [] 0 0 0 0 (bs []) (bs []) (bs []) [] b γ fun z34 z35 z36 z37 z38 z39 z40 z41 z42 z43 z44 z45 z46 z47 z48 z49 z50 z51 z52 z53 => bif isIfc z35 then bif Ex.isExit z34 0 then K z37 z38 z39 z40 z41 z42 z43 z44 Dat.nilI z53 else bif Ex.isRet z34 then K z45 z46 z47 z48 z49 z50 z51 z52 z35 z53 else none else none
theorem e_types_each'1 (p : Par) (x_types_Move_1 x_types_each_L0'1 v_e0 v_e1 v_e2 v_e3 v_e4 v_e5 v_e6 v_e7 b) (γ : Type) (K : List Ent × Sig → Option γ) : evFK (cfg p) (T_types_each'1 x_types_Move_1 x_types_each_L0'1) (L_types_each'1 x_types_Move_1 x_types_each_L0'1) 44 [agg [(int i64 v_e0, Own.none), (int i64 v_e1, Own.none), (int i64 v_e2, Own.none), (int i64 v_e3, Own.none), (str v_e4, Own.none), (str v_e5, Own.none), (str v_e6, Own.none), (sl v_e7, Own.none)], AVal.clo (Fn.func 38) [] [AVal.ref 0 0]] [Box.cells [dat (sl b)]] γ K = Sp.B_types_each'1 x_types_Move_1 x_types_each_L0'1 v_e0 v_e1 v_e2 v_e3 v_e4 v_e5 v_e6 v_e7 b γ (fun r0 r1 r2 r3 r4 r5 r6 r7 r8 r9 => K ([(agg [(int i64 r0, Own.none), (int i64 r1, Own.none), (int i64 r2, Own.none), (int i64 r3, Own.none), (str r4, Own.none), (str r5, Own.none), (str r6, Own.none), (sl r7, Own.none)], Own.none), (dat r8, Own.none)], [Box.cells [dat (sl r9)]])) := by kernel_rfl
def Sp.types_each_L0'1 (R_types_each'1 : Ty_types_each'1) : Nat → Ty_types_each_L0'1
  | 0 => fun _ _ _ _ _ _ _ _ _ _ _ _ _ _ _ _ _ _ _ _ _ _ _ => none
  | n + 1 => Sp.B_types_each_L0'1 (Sp.types_each_L0'1 R_types_each'1 n) R_types_each'1
theorem E0_types_each_L0'1 (p : Par) (R_types_each'1 : Ty_types_each'1) (h_types_each'1 : ∀ {F : Ent3}, EntOk (cfg p) 44 F → EntOk (cfg p) 44 (P_types_each'1 R_types_each'1 F)) : ∀ n, EntOkL (cfg p) 44 0 (P_types_each_L0'1 (Sp.types_each_L0'1 R_types_each'1 n) noneL3) := entL_rounds (tab_call (tab_nil _) (h_types_each'1 (ent_none _ _))) (by kernel_rfl) (fun c v γ K => by unfold P_types_each_L0'1; split <;> rfl) fun n c v γ K q h => by
  unfold P_types_each_L0'1 at h
  split at h
  · exact (e_types_each_L0'1 p _ _ _ _ _ _ _ _ _ _ _ _ _ _ _ _ _ _ _ _ _ _ _ _ _).trans h
  · cases h
theorem E_types_each_L0'1 (p : Par) (R_types_each'1 : Ty_types_each'1) (h_types_each'1 : ∀ {F : Ent3}, EntOk (cfg p) 44 F → EntOk (cfg p) 44 (P_types_each'1 R_types_each'1 F)) (n : Nat) {F : Loop3} (hF : EntOkL (cfg p) 44 0 F) : EntOkL (cfg p) 44 0 (P_types_each_L0'1 (Sp.types_each_L0'1 R_types_each'1 n) F) := by
  intro c v γ K q h
  unfold P_types_each_L0'1 at h
  split at h
  · exact E0_types_each_L0'1 p R_types_each'1 h_types_each'1 n _ _ _ _ _ h
  · exact hF _ _ _ _ _ h
def Sp.types_each'1 : Nat → Ty_types_each'1
  | 0 => fun _ _ _ _ _ _ _ _ _ _ _ => none
  | n + 1 => Sp.B_types_each'1 Sp.types_Move_1 (Sp.types_each_L0'1 (Sp.types_each'1 n) fuel)
theorem G54_ok (p : Par) (n : Nat) : (∀ {F : Ent3}, EntOk (cfg p) 44 F → EntOk (cfg p) 44 (P_types_each'1 (Sp.types_each'1 n) F)) := by
  induction n with
  | zero =>
    refine ?_
    · intro F hF a s γ K q h
      unfold P_types_each'1 at h
      split at h
      · cases h
      · exact hF _ _ _ _ _ h
  | succ n ih =>
    refine ?_
    · intro F hF a s γ K q h
      unfold P_types_each'1 at h
      split at h
      · exact body_ok (tab_loop (tab_call (tab_nil _) (E_types_Move_1 p (ent_none _ _))) (E_types_each_L0'1 p (Sp.types_each'1 n) ih fuel (entL_none _ _ _))) rfl ((e_types_each'1 p _ _ _ _ _ _ _ _ _ _ _ _ _).trans h)
      · exact hF _ _ _ _ _ h
theorem E_types_each'1 (p : Par) (n : Nat) {F : Ent3} (hF : EntOk (cfg p) 44 F) : EntOk (cfg p) 44 (P_types_each'1 (Sp.types_each'1 n) F) := (G54_ok p n) hF
abbrev Ty_types_placed'1 : Type 1 := Int → Int → Int → Int → ByteArray → ByteArray → ByteArray → List (List Dat) → List (List Dat) → (γ : Type) → (Int → Int → Int → Int → ByteArray → ByteArray → ByteArray → List (List Dat) → Int → List (List Dat) → Option γ) → Option γ
def P_types_placed'1 (X : Ty_types_placed'1) (F : Ent3) : Ent3 := fun a s γ K => match a, s with
  | [agg [(int i64 v_e0, Own.none), (int i64 v_e1, Own.none), (int i64 v_e2, Own.none), (int i64 v_e3, Own.none), (str v_e4, Own.none), (str v_e5, Own.none), (str v_e6, Own.none), (sl v_e7, Own.none)], AVal.clo (Fn.func 38) [] [AVal.ref 0 0]], [Box.cells [dat (sl b)]] => X v_e0 v_e1 v_e2 v_e3 v_e4 v_e5 v_e6 v_e7 b γ (fun r0 r1 r2 r3 r4 r5 r6 r7 r8 r9 => K ([(agg [(int i64 r0, Own.none), (int i64 r1, Own.none), (int i64 r2, Own.none), (int i64 r3, Own.none), (str r4, Own.none), (str r5, Own.none), (str r6, Own.none), (sl r7, Own.none)], Own.none), (dat (int i64 r8), Own.none)], [Box.cells [dat (sl r9)]]))
  | a, s => F a s γ K
def T_types_placed'1 (x_expr_Check : Ty_expr_Check) (x_types_each'1 : Ty_types_each'1) (x_types_number : Ty_types_number) : CallK := (addK (addK (addK noneK 34 (P_expr_Check x_expr_Check none3)) 44 (P_types_each'1 x_types_each'1 none3)) 36 (P_types_number x_types_number none3))
def L_types_placed'1 (x_expr_Check : Ty_expr_Check) (x_types_each'1 : Ty_types_each'1) (x_types_number : Ty_types_number) : LoopK := noneL
def Sp.B_types_placed'1 (x_expr_Check : Ty_expr_Check) (x_types_each'1 : Ty_types_each'1) (x_types_number : Ty_types_number) (v_e0 v_e1 v_e2 v_e3 : Int) (v_e4 v_e5 v_e6 : ByteArray) (v_e7 b : List (List Dat)) (γ : Type) (K : Int → Int → Int → Int → ByteArray → ByteArray → ByteArray → List (List Dat) → Int → List (List Dat) → Option γ) : Option γ := x_expr_Check v_e0 v_e1 v_e2 v_e3 v_e4 v_e5 v_e6 v_e7 γ fun z11 => bif !decide (z11 = 0) then K 0 0 0 0 (bs []) (bs []) (bs []) [] z11 b else x_types_each'1 v_e0 v_e1 v_e2 v_e3 v_e4 v_e5 v_e6 v_e7 b γ fun z12 z13 z14 z15 z16 z17 z18 z19 z20 z21 => bif isIfc z20 then x_types_number z20 γ fun z22 => bif !decide (z22 = 0) then K 0 0 0 0 (bs []) (bs []) (bs []) [] z22 z21 else K z12 z13 z14 z15 z16 z17 z18 z19 0 z21 else none
theorem e_types_placed'1 (p : Par) (x_expr_Check x_types_each'1 x_types_number v_e0 v_e1 v_e2 v_e3 v_e4 v_e5 v_e6 v_e7 b) (γ : Type) (K : List Ent × Sig → Option γ) : evFK (cfg p) (T_types_placed'1 x_expr_Check x_types_each'1 x_types_number) (L_types_placed'1 x_expr_Check x_types_each'1 x_types_number) 30 [agg [(int i64 v_e0, Own.none), (int i64 v_e1, Own.none), (int i64 v_e2, Own.none), (int i64 v_e3, Own.none), (str v_e4, Own.none), (str v_e5, Own.none), (str v_e6, Own.none), (sl v_e7, Own.none)], AVal.clo (Fn.func 38) [] [AVal.ref 0 0]] [Box.cells [dat (sl b)]] γ K = Sp.B_types_placed'1 x_expr_Check x_types_each'1 x_types_number v_e0 v_e1 v_e2 v_e3 v_e4 v_e5 v_e6 v_e7 b γ (fun r0 r1 r2 r3 r4 r5 r6 r7 r8 r9 => K ([(agg [(int i64 r0, Own.none), (int i64 r1, Own.none), (int i64 r2, Own.none), (int i64 r3, Own.none), (str r4, Own.none), (str r5, Own.none), (str r6, Own.none), (sl r7, Own.none)], Own.none), (dat (int i64 r8), Own.none)], [Box.cells [dat (sl r9)]])) := by kernel_rfl
def Sp.types_placed'1 : Ty_types_placed'1 := Sp.B_types_placed'1 Sp.expr_Check (Sp.types_each'1 fuel) Sp.types_number
theorem E_types_placed'1 (p : Par) {F : Ent3} (hF : EntOk (cfg p) 30 F) : EntOk (cfg p) 30 (P_types_placed'1 Sp.types_placed'1 F) := by
  intro a s γ K q h
  unfold P_types_placed'1 at h
  split at h
  · exact body_ok (tab_call (tab_call (tab_call (tab_nil _) (E_expr_Check p (ent_none _ _))) (E_types_each'1 p fuel (ent_none _ _))) (E_types_number p (ent_none _ _))) rfl ((e_types_placed'1 p _ _ _ _ _ _ _ _ _ _ _ _ _ _).trans h)
  · exact hF _ _ _ _ _ h
abbrev Ty_types_Move : Type 1 := Int → Int → Int → Int → ByteArray → ByteArray → ByteArray → List (List Dat) → List (List Dat) → (γ : Type) → (Int → Int → Int → Int → ByteArray → ByteArray → ByteArray → List (List Dat) → Int → Option γ) → Option γ
def P_types_Move (X : Ty_types_Move) (F : Ent3) : Ent3 := fun a s γ K => match a, s with
  | [agg [(int i64 v_e0, Own.none), (int i64 v_e1, Own.none), (int i64 v_e2, Own.none), (int i64 v_e3, Own.none), (str v_e4, Own.none), (str v_e5, Own.none), (str v_e6, Own.none), (sl v_e7, Own.none)], dat (sl v_places)], [] => X v_e0 v_e1 v_e2 v_e3 v_e4 v_e5 v_e6 v_e7 v_places γ (fun r0 r1 r2 r3 r4 r5 r6 r7 r8 => K ([(agg [(int i64 r0, Own.none), (int i64 r1, Own.none), (int i64 r2, Own.none), (int i64 r3, Own.none), (str r4, Own.none), (str r5, Own.none), (str r6, Own.none), (sl r7, Own.none)], Own.none), (dat (int i64 r8), Own.none)], []))
  | a, s => F a s γ K
def T_types_Move (x_types_placed'1 : Ty_types_placed'1) : CallK := (addK noneK 30 (P_types_placed'1 x_types_placed'1 none3))
def L_types_Move (x_types_placed'1 : Ty_types_placed'1) : LoopK := noneL
def Sp.B_types_Move (x_types_placed'1 : Ty_types_placed'1) (v_e0 v_e1 v_e2 v_e3 : Int) (v_e4 v_e5 v_e6 : ByteArray) (v_e7 v_places : List (List Dat)) (γ : Type) (K : Int → Int → Int → Int → ByteArray → ByteArray → ByteArray → List (List Dat) → Int → Option γ) : Option γ := x_types_placed'1 v_e0 v_e1 v_e2 v_e3 v_e4 v_e5 v_e6 v_e7 v_places γ fun z11 z12 z13 z14 z15 z16 z17 z18 z19 z20 => K z11 z12 z13 z14 z15 z16 z17 z18 z19
theorem e_types_Move (p : Par) (x_types_placed'1 v_e0 v_e1 v_e2 v_e3 v_e4 v_e5 v_e6 v_e7 v_places) (γ : Type) (K : List Ent × Sig → Option γ) : evFK (cfg p) (T_types_Move x_types_placed'1) (L_types_Move x_types_placed'1) 18 [agg [(int i64 v_e0, Own.none), (int i64 v_e1, Own.none), (int i64 v_e2, Own.none), (int i64 v_e3, Own.none), (str v_e4, Own.none), (str v_e5, Own.none), (str v_e6, Own.none), (sl v_e7, Own.none)], dat (sl v_places)] [] γ K = Sp.B_types_Move x_types_placed'1 v_e0 v_e1 v_e2 v_e3 v_e4 v_e5 v_e6 v_e7 v_places γ (fun r0 r1 r2 r3 r4 r5 r6 r7 r8 => K ([(agg [(int i64 r0, Own.none), (int i64 r1, Own.none), (int i64 r2, Own.none), (int i64 r3, Own.none), (str r4, Own.none), (str r5, Own.none), (str r6, Own.none), (sl r7, Own.none)], Own.none), (dat (int i64 r8), Own.none)], [])) := by kernel_rfl
def Sp.types_Move : Ty_types_Move := Sp.B_types_Move Sp.types_placed'1
theorem E_types_Move (p : Par) {F : Ent3} (hF : EntOk (cfg p) 18 F) : EntOk (cfg p) 18 (P_types_Move Sp.types_Move F) := by
  intro a s γ K q h
  unfold P_types_Move at h
  split at h
  · exact body_ok (tab_call (tab_nil _) (E_types_placed'1 p (ent_none _ _))) rfl ((e_types_Move p _ _ _ _ _ _ _ _ _ _ _ _).trans h)
  · exact hF _ _ _ _ _ h
abbrev Ty_law14_lives : Type 1 := (γ : Type) → (Bool → Option γ) → Option γ
def P_law14_lives (X : Ty_law14_lives) (F : Ent3) : Ent3 := fun a s γ K => match a, s with
  | [], [] => X γ (fun r0 => K ([(dat (Dat.bool r0), Own.none)], []))
  | a, s => F a s γ K
def T_law14_lives (x_law14_Two : Ty_law14_Two) (x_types_Find : Ty_types_Find) (x_ref10_Column : Ty_ref10_Column) (x_ref10_Op : Ty_ref10_Op) (x_types_Bind : Ty_types_Bind) (x_types_Type : Ty_types_Type) (x_types_Move : Ty_types_Move) (x_types_Uses : Ty_types_Uses) : CallK := (addK (addK (addK (addK (addK (addK (addK (addK noneK 23 (P_law14_Two x_law14_Two none3)) 10 (P_types_Find x_types_Find none3)) 24 (P_ref10_Column x_ref10_Column none3)) 25 (P_ref10_Op x_ref10_Op none3)) 13 (P_types_Bind x_types_Bind none3)) 15 (P_types_Type x_types_Type none3)) 18 (P_types_Move x_types_Move none3)) 21 (P_types_Uses x_types_Uses none3))
def L_law14_lives (x_law14_Two : Ty_law14_Two) (x_types_Find : Ty_types_Find) (x_ref10_Column : Ty_ref10_Column) (x_ref10_Op : Ty_ref10_Op) (x_types_Bind : Ty_types_Bind) (x_types_Type : Ty_types_Type) (x_types_Move : Ty_types_Move) (x_types_Uses : Ty_types_Uses) : LoopK := noneL
def Sp.B_law14_lives (x_law14_Two : Ty_law14_Two) (x_types_Find : Ty_types_Find) (x_ref10_Column : Ty_ref10_Column) (x_ref10_Op : Ty_ref10_Op) (x_types_Bind : Ty_types_Bind) (x_types_Type : Ty_types_Type) (x_types_Move : Ty_types_Move) (x_types_Uses : Ty_types_Uses)  (γ : Type) (K : Bool → Option γ) : Option γ := x_law14_Two γ fun z2 => x_types_Find z2 (bs [117]) (bs [97]) γ fun z3 z4 => x_law14_Two γ fun z5 => x_types_Find z5 (bs []) (bs [97]) γ fun z6 z7 => x_ref10_Column (bs [117]) (bs [97]) γ fun z8 z9 z10 z11 z12 z13 z14 z15 => x_ref10_Column (bs []) (bs [98]) γ fun z16 z17 z18 z19 z20 z21 z22 z23 => x_ref10_Op 4 [[int i64 z8, int i64 z9, int i64 z10, int i64 z11, str z12, str z13, str z14, sl z15], [int i64 z16, int i64 z17, int i64 z18, int i64 z19, str z20, str z21, str z22, sl z23]] γ fun z24 z25 z26 z27 z28 z29 z30 z31 => x_law14_Two γ fun z32 => x_types_Bind z24 z25 z26 z27 z28 z29 z30 z31 z32 γ fun z33 z34 z35 z36 z37 z38 z39 z40 z41 => x_law14_Two γ fun z42 => x_types_Type z33 z34 z35 z36 z37 z38 z39 z40 z42 γ fun z43 z44 => x_ref10_Op 16 [[int i64 z16, int i64 z17, int i64 z18, int i64 z19, str z20, str z21, str z22, sl z23]] γ fun z45 z46 z47 z48 z49 z50 z51 z52 => x_law14_Two γ fun z53 => x_types_Bind z45 z46 z47 z48 z49 z50 z51 z52 z53 γ fun z54 z55 z56 z57 z58 z59 z60 z61 z62 => x_law14_Two γ fun z63 => x_types_Type z54 z55 z56 z57 z58 z59 z60 z61 z63 γ fun z64 z65 => x_types_Move z33 z34 z35 z36 z37 z38 z39 z40 [[int i64 5], [int i64 6], [int i64 7]] γ fun z66 z67 z68 z69 z70 z71 z72 z73 z74 => x_types_Uses z66 z67 z68 z69 z70 z71 z72 z73 γ fun z75 => bif decide (z4 = 0) then bif decide (z3 = 2) then bif decide (z7 = 140) then bif decide (z41 = 0) then bif decide (z44 = 141) then bif decide (z62 = 0) then bif decide (z65 = 0) then bif decide (z64 = 1) then bif decide (z74 = 0) then bif decide (Int.ofNat (List.length z75) = 2) then elemAt z75 0 fun z76 => bif List.length z76 == 1 then cellAt z76 0 fun z77 => Aev.asInt i64 z77 fun z78 => bif decide (z78 = 6) then elemAt z75 1 fun z79 => bif List.length z79 == 1 then cellAt z79 0 fun z80 => Aev.asInt i64 z80 fun z81 => K (decide (z81 = 7)) else none else K false else none else K false else K false else K false else K false else K false else K false else K false else K false else K false else K false
theorem e_law14_lives (p : Par) (x_law14_Two x_types_Find x_ref10_Column x_ref10_Op x_types_Bind x_types_Type x_types_Move x_types_Uses) (γ : Type) (K : List Ent × Sig → Option γ) : evFK (cfg p) (T_law14_lives x_law14_Two x_types_Find x_ref10_Column x_ref10_Op x_types_Bind x_types_Type x_types_Move x_types_Uses) (L_law14_lives x_law14_Two x_types_Find x_ref10_Column x_ref10_Op x_types_Bind x_types_Type x_types_Move x_types_Uses) 9 [] [] γ K = Sp.B_law14_lives x_law14_Two x_types_Find x_ref10_Column x_ref10_Op x_types_Bind x_types_Type x_types_Move x_types_Uses γ (fun r0 => K ([(dat (Dat.bool r0), Own.none)], [])) := by kernel_rfl
def Sp.law14_lives : Ty_law14_lives := Sp.B_law14_lives Sp.law14_Two Sp.types_Find Sp.ref10_Column Sp.ref10_Op Sp.types_Bind Sp.types_Type Sp.types_Move Sp.types_Uses
theorem E_law14_lives (p : Par) {F : Ent3} (hF : EntOk (cfg p) 9 F) : EntOk (cfg p) 9 (P_law14_lives Sp.law14_lives F) := by
  intro a s γ K q h
  unfold P_law14_lives at h
  split at h
  · exact body_ok (tab_call (tab_call (tab_call (tab_call (tab_call (tab_call (tab_call (tab_call (tab_nil _) (E_law14_Two p (ent_none _ _))) (E_types_Find p (ent_none _ _))) (E_ref10_Column p (ent_none _ _))) (E_ref10_Op p (ent_none _ _))) (E_types_Bind p (ent_none _ _))) (E_types_Type p (ent_none _ _))) (E_types_Move p (ent_none _ _))) (E_types_Uses p (ent_none _ _))) rfl ((e_law14_lives p _ _ _ _ _ _ _ _ _ _).trans h)
  · exact hF _ _ _ _ _ h
abbrev Ty_ref14_Find_L0 : Type 1 := List (List Dat) → ByteArray → ByteArray → Int → Bool → Int → Int → (γ : Type) → (Ex → Int → Bool → Int → Int → Option γ) → Option γ
def P_ref14_Find_L0 (X : Ty_ref14_Find_L0) (F : Loop3) : Loop3 := fun a s γ K => match a, s with
  | [dat (sl v_cols), dat (str v_tab), dat (str v_col)], ([dat (int i64 v_), dat (Dat.bool v__1), dat (int i64 v_at), dat (int i64 v_i)], []) => X v_cols v_tab v_col v_ v__1 v_at v_i γ (fun e x0 x1 x2 x3 => K (e, ([dat (int i64 x0), dat (Dat.bool x1), dat (int i64 x2), dat (int i64 x3)], [])))
  | a, s => F a s γ K
def T_ref14_Find_L0 : CallK := noneK
def L_ref14_Find_L0 : LoopK := noneL
def Sp.B_ref14_Find_L0 (x_ref14_Find_L0 : Ty_ref14_Find_L0)  (v_cols : List (List Dat)) (v_tab v_col : ByteArray) (v_ : Int) (v__1 : Bool) (v_at v_i : Int) (γ : Type) (K : Ex → Int → Bool → Int → Int → Option γ) : Option γ := bif decide (v_i < Int.ofNat (List.length v_cols)) then elemAt v_cols v_i fun z9 => bif List.length z9 == 3 then cellAt (List.drop 1 z9) 0 fun z10 => asStr z10 fun z11 => bif !decide (z11 = v_col) then x_ref14_Find_L0 v_cols v_tab v_col v_ v__1 v_at (IntKind.wrap i64 (v_i + 1)) γ K else bif !decide (v_tab = bs []) then elemAt v_cols v_i fun z12 => bif List.length z12 == 3 then cellAt (List.drop 0 z12) 0 fun z13 => asStr z13 fun z14 => bif !decide (z14 = v_tab) then x_ref14_Find_L0 v_cols v_tab v_col v_ v__1 v_at (IntKind.wrap i64 (v_i + 1)) γ K else bif decide (0 ≤ v_at) then K Ex.ret 0 false v_at v_i else x_ref14_Find_L0 v_cols v_tab v_col v_ v__1 v_i (IntKind.wrap i64 (v_i + 1)) γ K else none else bif decide (0 ≤ v_at) then K Ex.ret 0 false v_at v_i else x_ref14_Find_L0 v_cols v_tab v_col v_ v__1 v_i (IntKind.wrap i64 (v_i + 1)) γ K else none else K (Ex.exit 0) v_ v__1 v_at v_i
theorem e_ref14_Find_L0 (p : Par) (x_ref14_Find_L0 : Ty_ref14_Find_L0) (v_cols v_tab v_col v_ v__1 v_at v_i) (γ : Type) (K : Ex × Vars → Option γ) : roundK (cfg p) (T_ref14_Find_L0) (L_ref14_Find_L0) 11 0 [dat (sl v_cols), dat (str v_tab), dat (str v_col)] ([dat (int i64 v_), dat (Dat.bool v__1), dat (int i64 v_at), dat (int i64 v_i)], []) γ (contL (fun v => P_ref14_Find_L0 x_ref14_Find_L0 noneL3 [dat (sl v_cols), dat (str v_tab), dat (str v_col)] v γ K) K) = Sp.B_ref14_Find_L0 x_ref14_Find_L0 v_cols v_tab v_col v_ v__1 v_at v_i γ (fun e x0 x1 x2 x3 => K (e, ([dat (int i64 x0), dat (Dat.bool x1), dat (int i64 x2), dat (int i64 x3)], []))) := by kernel_rfl
def Sp.ref14_Find_L0 : Nat → Ty_ref14_Find_L0
  | 0 => fun _ _ _ _ _ _ _ _ _ => none
  | n + 1 => Sp.B_ref14_Find_L0 (Sp.ref14_Find_L0 n) 
theorem E0_ref14_Find_L0 (p : Par)   : ∀ n, EntOkL (cfg p) 11 0 (P_ref14_Find_L0 (Sp.ref14_Find_L0 n) noneL3) := entL_rounds (tab_nil _) (by kernel_rfl) (fun c v γ K => by unfold P_ref14_Find_L0; split <;> rfl) fun n c v γ K q h => by
  unfold P_ref14_Find_L0 at h
  split at h
  · exact (e_ref14_Find_L0 p _ _ _ _ _ _ _ _ _ _).trans h
  · cases h
theorem E_ref14_Find_L0 (p : Par)   (n : Nat) {F : Loop3} (hF : EntOkL (cfg p) 11 0 F) : EntOkL (cfg p) 11 0 (P_ref14_Find_L0 (Sp.ref14_Find_L0 n) F) := by
  intro c v γ K q h
  unfold P_ref14_Find_L0 at h
  split at h
  · exact E0_ref14_Find_L0 p n _ _ _ _ _ h
  · exact hF _ _ _ _ _ h
abbrev Ty_ref14_Find : Type 1 := List (List Dat) → ByteArray → ByteArray → (γ : Type) → (Int → Bool → Option γ) → Option γ
def P_ref14_Find (X : Ty_ref14_Find) (F : Ent3) : Ent3 := fun a s γ K => match a, s with
  | [dat (sl v_cols), dat (str v_tab), dat (str v_col)], [] => X v_cols v_tab v_col γ (fun r0 r1 => K ([(dat (int i64 r0), Own.none), (dat (Dat.bool r1), Own.none)], []))
  | a, s => F a s γ K
def T_ref14_Find (x_ref14_Find_L0 : Ty_ref14_Find_L0) : CallK := noneK
def L_ref14_Find (x_ref14_Find_L0 : Ty_ref14_Find_L0) : LoopK := (addL noneL 11 0 (P_ref14_Find_L0 x_ref14_Find_L0 noneL3))
def Sp.B_ref14_Find (x_ref14_Find_L0 : Ty_ref14_Find_L0) (v_cols : List (List Dat)) (v_tab v_col : ByteArray) (γ : Type) (K : Int → Bool → Option γ) : Option γ := x_ref14_Find_L0 v_cols v_tab v_col 0 false (-1) 0 γ fun z5 z6 z7 z8 z9 => bif Ex.isExit z5 0 then bif decide (z8 < 0) then K 0 false else bif decide (32 ≤ z8) then K 0 false else K z8 true else bif Ex.isRet z5 then K z6 z7 else none
theorem e_ref14_Find (p : Par) (x_ref14_Find_L0 v_cols v_tab v_col) (γ : Type) (K : List Ent × Sig → Option γ) : evFK (cfg p) (T_ref14_Find x_ref14_Find_L0) (L_ref14_Find x_ref14_Find_L0) 11 [dat (sl v_cols), dat (str v_tab), dat (str v_col)] [] γ K = Sp.B_ref14_Find x_ref14_Find_L0 v_cols v_tab v_col γ (fun r0 r1 => K ([(dat (int i64 r0), Own.none), (dat (Dat.bool r1), Own.none)], [])) := by kernel_rfl
def Sp.ref14_Find : Ty_ref14_Find := Sp.B_ref14_Find (Sp.ref14_Find_L0 fuel)
theorem E_ref14_Find (p : Par) {F : Ent3} (hF : EntOk (cfg p) 11 F) : EntOk (cfg p) 11 (P_ref14_Find Sp.ref14_Find F) := by
  intro a s γ K q h
  unfold P_ref14_Find at h
  split at h
  · exact body_ok (tab_loop (tab_nil _) (E_ref14_Find_L0 p fuel (entL_none _ _ _))) rfl ((e_ref14_Find p _ _ _ _ _ _).trans h)
  · exact hF _ _ _ _ _ h
end
end Go.Proofs.YtppilomaljgkoaaGreatDoor

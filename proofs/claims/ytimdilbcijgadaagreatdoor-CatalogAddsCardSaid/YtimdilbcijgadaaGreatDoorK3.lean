/- What the functions of this program compute, printed by a program. -/
import Derived.Test.YtimdilbcijgadaaGreatDoorKQ
import Derived.KernelRfl
set_option linter.unusedVariables false
namespace Go.Proofs.YtimdilbcijgadaaGreatDoor
open Go Go.Aev Go.RowKit
open Go.Aev.AVal (dat agg)
open Go.Aev.Dat (int str sl)
open Go.IntKind (i64)
noncomputable section
abbrev Ty_ref13_Large_L2 : Type 1 := List (List Dat) → Int → Bool → Int → (γ : Type) → (Ex → Bool → Int → Option γ) → Option γ
def P_ref13_Large_L2 (X : Ty_ref13_Large_L2) (F : Loop3) : Loop3 := fun a s γ K => match a, s with
  | [dat (sl v_c), dat (int i64 v_i)], ([dat (Dat.bool v_), dat (int i64 v_k)], []) => X v_c v_i v_ v_k γ (fun e x0 x1 => K (e, ([dat (Dat.bool x0), dat (int i64 x1)], [])))
  | a, s => F a s γ K
def T_ref13_Large_L2 : CallK := noneK
def L_ref13_Large_L2 : LoopK := noneL
def Sp.B_ref13_Large_L2 (x_ref13_Large_L2 : Ty_ref13_Large_L2)  (v_c : List (List Dat)) (v_i : Int) (v_ : Bool) (v_k : Int) (γ : Type) (K : Ex → Bool → Int → Option γ) : Option γ := elemAt v_c v_i fun z6 => bif List.length z6 == 3 then cellAt (List.drop 2 z6) 0 fun z7 => asSl z7 fun z8 => bif decide (v_k < Int.ofNat (List.length z8)) then elemAt v_c v_i fun z9 => bif List.length z9 == 3 then cellAt (List.drop 2 z9) 0 fun z10 => asSl z10 fun z11 => elemAt z11 v_k fun z12 => bif List.length z12 == 1 then cellAt z12 0 fun z13 => asSl z13 fun z14 => bif decide (50 < Int.ofNat (List.length z14)) then K Ex.ret true v_k else x_ref13_Large_L2 v_c v_i v_ (IntKind.wrap i64 (v_k + 1)) γ K else none else none else K (Ex.exit 2) v_ v_k else none
theorem e_ref13_Large_L2 (p : Par) (x_ref13_Large_L2 : Ty_ref13_Large_L2) (v_c v_i v_ v_k) (γ : Type) (K : Ex × Vars → Option γ) : roundK (cfg p) (T_ref13_Large_L2) (L_ref13_Large_L2) 8 2 [dat (sl v_c), dat (int i64 v_i)] ([dat (Dat.bool v_), dat (int i64 v_k)], []) γ (contL (fun v => P_ref13_Large_L2 x_ref13_Large_L2 noneL3 [dat (sl v_c), dat (int i64 v_i)] v γ K) K) = Sp.B_ref13_Large_L2 x_ref13_Large_L2 v_c v_i v_ v_k γ (fun e x0 x1 => K (e, ([dat (Dat.bool x0), dat (int i64 x1)], []))) := by kernel_rfl
def Sp.ref13_Large_L2 : Nat → Ty_ref13_Large_L2
  | 0 => fun _ _ _ _ _ _ => none
  | n + 1 => Sp.B_ref13_Large_L2 (Sp.ref13_Large_L2 n) 
theorem E0_ref13_Large_L2 (p : Par)   : ∀ n, EntOkL (cfg p) 8 2 (P_ref13_Large_L2 (Sp.ref13_Large_L2 n) noneL3) := entL_rounds (tab_nil _) (by kernel_rfl) (fun c v γ K => by unfold P_ref13_Large_L2; split <;> rfl) fun n c v γ K q h => by
  unfold P_ref13_Large_L2 at h
  split at h
  · exact (e_ref13_Large_L2 p _ _ _ _ _ _ _).trans h
  · cases h
theorem E_ref13_Large_L2 (p : Par)   (n : Nat) {F : Loop3} (hF : EntOkL (cfg p) 8 2 F) : EntOkL (cfg p) 8 2 (P_ref13_Large_L2 (Sp.ref13_Large_L2 n) F) := by
  intro c v γ K q h
  unfold P_ref13_Large_L2 at h
  split at h
  · exact E0_ref13_Large_L2 p n _ _ _ _ _ h
  · exact hF _ _ _ _ _ h
abbrev Ty_ref13_Large_L0 : Type 1 := List (List Dat) → Bool → Int → (γ : Type) → (Ex → Bool → Int → Option γ) → Option γ
def P_ref13_Large_L0 (X : Ty_ref13_Large_L0) (F : Loop3) : Loop3 := fun a s γ K => match a, s with
  | [dat (sl v_c)], ([dat (Dat.bool v_), dat (int i64 v_i)], []) => X v_c v_ v_i γ (fun e x0 x1 => K (e, ([dat (Dat.bool x0), dat (int i64 x1)], [])))
  | a, s => F a s γ K
def T_ref13_Large_L0 (x_ref13_Large_L2 : Ty_ref13_Large_L2) : CallK := noneK
def L_ref13_Large_L0 (x_ref13_Large_L2 : Ty_ref13_Large_L2) : LoopK := (addL noneL 8 2 (P_ref13_Large_L2 x_ref13_Large_L2 noneL3))
def Sp.B_ref13_Large_L0 (x_ref13_Large_L0 : Ty_ref13_Large_L0) (x_ref13_Large_L2 : Ty_ref13_Large_L2) (v_c : List (List Dat)) (v_ : Bool) (v_i : Int) (γ : Type) (K : Ex → Bool → Int → Option γ) : Option γ := bif decide (v_i < Int.ofNat (List.length v_c)) then elemAt v_c v_i fun z5 => bif List.length z5 == 3 then cellAt (List.drop 1 z5) 0 fun z6 => asSl z6 fun z7 => bif decide (40 < Int.ofNat (List.length z7)) then K Ex.ret true v_i else elemAt v_c v_i fun z8 => bif List.length z8 == 3 then cellAt (List.drop 2 z8) 0 fun z9 => asSl z9 fun z10 => bif decide (300 < Int.ofNat (List.length z10)) then elemAt v_c v_i fun z11 => bif List.length z11 == 3 then cellAt (List.drop 2 z11) 0 fun z12 => asSl z12 fun z13 => bif decide (Int.ofNat (List.length z13) ≤ 4096) then K Ex.ret true v_i else elemAt v_c v_i fun z14 => bif List.length z14 == 3 then cellAt (List.drop 2 z14) 0 fun z15 => asSl z15 fun z16 => bif decide (5000 < Int.ofNat (List.length z16)) then K Ex.ret true v_i else x_ref13_Large_L2 v_c v_i v_ 0 γ fun z17 z18 z19 => bif Ex.isExit z17 2 then x_ref13_Large_L0 v_c z18 (IntKind.wrap i64 (v_i + 1)) γ K else bif Ex.isRet z17 then K Ex.ret z18 v_i else none else none else none else elemAt v_c v_i fun z20 => bif List.length z20 == 3 then cellAt (List.drop 2 z20) 0 fun z21 => asSl z21 fun z22 => bif decide (5000 < Int.ofNat (List.length z22)) then K Ex.ret true v_i else x_ref13_Large_L2 v_c v_i v_ 0 γ fun z23 z24 z25 => bif Ex.isExit z23 2 then x_ref13_Large_L0 v_c z24 (IntKind.wrap i64 (v_i + 1)) γ K else bif Ex.isRet z23 then K Ex.ret z24 v_i else none else none else none else none else K (Ex.exit 0) v_ v_i
theorem e_ref13_Large_L0 (p : Par) (x_ref13_Large_L0 : Ty_ref13_Large_L0) (x_ref13_Large_L2 v_c v_ v_i) (γ : Type) (K : Ex × Vars → Option γ) : roundK (cfg p) (T_ref13_Large_L0 x_ref13_Large_L2) (L_ref13_Large_L0 x_ref13_Large_L2) 8 0 [dat (sl v_c)] ([dat (Dat.bool v_), dat (int i64 v_i)], []) γ (contL (fun v => P_ref13_Large_L0 x_ref13_Large_L0 noneL3 [dat (sl v_c)] v γ K) K) = Sp.B_ref13_Large_L0 x_ref13_Large_L0 x_ref13_Large_L2 v_c v_ v_i γ (fun e x0 x1 => K (e, ([dat (Dat.bool x0), dat (int i64 x1)], []))) := by kernel_rfl
def Sp.ref13_Large_L0 : Nat → Ty_ref13_Large_L0
  | 0 => fun _ _ _ _ _ => none
  | n + 1 => Sp.B_ref13_Large_L0 (Sp.ref13_Large_L0 n) (Sp.ref13_Large_L2 fuel)
theorem E0_ref13_Large_L0 (p : Par)   : ∀ n, EntOkL (cfg p) 8 0 (P_ref13_Large_L0 (Sp.ref13_Large_L0 n) noneL3) := entL_rounds (tab_loop (tab_nil _) (E_ref13_Large_L2 p fuel (entL_none _ _ _))) (by kernel_rfl) (fun c v γ K => by unfold P_ref13_Large_L0; split <;> rfl) fun n c v γ K q h => by
  unfold P_ref13_Large_L0 at h
  split at h
  · exact (e_ref13_Large_L0 p _ _ _ _ _ _ _).trans h
  · cases h
theorem E_ref13_Large_L0 (p : Par)   (n : Nat) {F : Loop3} (hF : EntOkL (cfg p) 8 0 F) : EntOkL (cfg p) 8 0 (P_ref13_Large_L0 (Sp.ref13_Large_L0 n) F) := by
  intro c v γ K q h
  unfold P_ref13_Large_L0 at h
  split at h
  · exact E0_ref13_Large_L0 p n _ _ _ _ _ h
  · exact hF _ _ _ _ _ h
abbrev Ty_ref13_Large : Type 1 := List (List Dat) → (γ : Type) → (Bool → Option γ) → Option γ
def P_ref13_Large (X : Ty_ref13_Large) (F : Ent3) : Ent3 := fun a s γ K => match a, s with
  | [dat (sl v_c)], [] => X v_c γ (fun r0 => K ([(dat (Dat.bool r0), Own.none)], []))
  | a, s => F a s γ K
def T_ref13_Large (x_ref13_Large_L0 : Ty_ref13_Large_L0) : CallK := noneK
def L_ref13_Large (x_ref13_Large_L0 : Ty_ref13_Large_L0) : LoopK := (addL noneL 8 0 (P_ref13_Large_L0 x_ref13_Large_L0 noneL3))
def Sp.B_ref13_Large (x_ref13_Large_L0 : Ty_ref13_Large_L0) (v_c : List (List Dat)) (γ : Type) (K : Bool → Option γ) : Option γ := bif decide (30 < Int.ofNat (List.length v_c)) then K true else x_ref13_Large_L0 v_c false 0 γ fun z3 z4 z5 => bif Ex.isExit z3 0 then K false else bif Ex.isRet z3 then K z4 else none
theorem e_ref13_Large (p : Par) (x_ref13_Large_L0 v_c) (γ : Type) (K : List Ent × Sig → Option γ) : evFK (cfg p) (T_ref13_Large x_ref13_Large_L0) (L_ref13_Large x_ref13_Large_L0) 8 [dat (sl v_c)] [] γ K = Sp.B_ref13_Large x_ref13_Large_L0 v_c γ (fun r0 => K ([(dat (Dat.bool r0), Own.none)], [])) := by kernel_rfl
def Sp.ref13_Large : Ty_ref13_Large := Sp.B_ref13_Large (Sp.ref13_Large_L0 fuel)
theorem E_ref13_Large (p : Par) {F : Ent3} (hF : EntOk (cfg p) 8 F) : EntOk (cfg p) 8 (P_ref13_Large Sp.ref13_Large F) := by
  intro a s γ K q h
  unfold P_ref13_Large at h
  split at h
  · exact body_ok (tab_loop (tab_nil _) (E_ref13_Large_L0 p fuel (entL_none _ _ _))) rfl ((e_ref13_Large p _ _ _ _).trans h)
  · exact hF _ _ _ _ _ h
abbrev Ty_ref01_Int : Type 1 := Int → (γ : Type) → (Int → Int → ByteArray → Option γ) → Option γ
def P_ref01_Int (X : Ty_ref01_Int) (F : Ent3) : Ent3 := fun a s γ K => match a, s with
  | [dat (int i64 v_n)], [] => X v_n γ (fun r0 r1 r2 => K ([(agg [(int i64 r0, Own.none), (int i64 r1, Own.none), (str r2, Own.none)], Own.none)], []))
  | a, s => F a s γ K
def T_ref01_Int : CallK := noneK
def L_ref01_Int : LoopK := noneL
def Sp.B_ref01_Int (v_n : Int) (γ : Type) (K : Int → Int → ByteArray → Option γ) : Option γ := K 2 v_n (bs [])
theorem e_ref01_Int (p : Par) (v_n) (γ : Type) (K : List Ent × Sig → Option γ) : evFK (cfg p) (T_ref01_Int) (L_ref01_Int) 60 [dat (int i64 v_n)] [] γ K = Sp.B_ref01_Int v_n γ (fun r0 r1 r2 => K ([(agg [(int i64 r0, Own.none), (int i64 r1, Own.none), (str r2, Own.none)], Own.none)], [])) := by kernel_rfl
def Sp.ref01_Int : Ty_ref01_Int := Sp.B_ref01_Int 
theorem E_ref01_Int (p : Par) {F : Ent3} (hF : EntOk (cfg p) 60 F) : EntOk (cfg p) 60 (P_ref01_Int Sp.ref01_Int F) := by
  intro a s γ K q h
  unfold P_ref01_Int at h
  split at h
  · exact body_ok (tab_nil _) rfl ((e_ref01_Int p _ _ _).trans h)
  · exact hF _ _ _ _ _ h
abbrev Ty_ref01_Text : Type 1 := ByteArray → (γ : Type) → (Int → Int → ByteArray → Option γ) → Option γ
def P_ref01_Text (X : Ty_ref01_Text) (F : Ent3) : Ent3 := fun a s γ K => match a, s with
  | [dat (str v_s)], [] => X v_s γ (fun r0 r1 r2 => K ([(agg [(int i64 r0, Own.none), (int i64 r1, Own.none), (str r2, Own.none)], Own.none)], []))
  | a, s => F a s γ K
def T_ref01_Text : CallK := noneK
def L_ref01_Text : LoopK := noneL
def Sp.B_ref01_Text (v_s : ByteArray) (γ : Type) (K : Int → Int → ByteArray → Option γ) : Option γ := K 3 0 v_s
theorem e_ref01_Text (p : Par) (v_s) (γ : Type) (K : List Ent × Sig → Option γ) : evFK (cfg p) (T_ref01_Text) (L_ref01_Text) 61 [dat (str v_s)] [] γ K = Sp.B_ref01_Text v_s γ (fun r0 r1 r2 => K ([(agg [(int i64 r0, Own.none), (int i64 r1, Own.none), (str r2, Own.none)], Own.none)], [])) := by kernel_rfl
def Sp.ref01_Text : Ty_ref01_Text := Sp.B_ref01_Text 
theorem E_ref01_Text (p : Par) {F : Ent3} (hF : EntOk (cfg p) 61 F) : EntOk (cfg p) 61 (P_ref01_Text Sp.ref01_Text F) := by
  intro a s γ K q h
  unfold P_ref01_Text at h
  split at h
  · exact body_ok (tab_nil _) rfl ((e_ref01_Text p _ _ _).trans h)
  · exact hF _ _ _ _ _ h
abbrev Ty_law13_Small : Type 1 := ByteArray → (γ : Type) → (ByteArray → List (List Dat) → List (List Dat) → Option γ) → Option γ
def P_law13_Small (X : Ty_law13_Small) (F : Ent3) : Ent3 := fun a s γ K => match a, s with
  | [dat (str v_name)], [] => X v_name γ (fun r0 r1 r2 => K ([(agg [(str r0, Own.none), (sl r1, Own.none), (sl r2, Own.none)], Own.none)], []))
  | a, s => F a s γ K
def T_law13_Small (x_ref01_Int : Ty_ref01_Int) (x_ref01_Text : Ty_ref01_Text) : CallK := (addK (addK noneK 60 (P_ref01_Int x_ref01_Int none3)) 61 (P_ref01_Text x_ref01_Text none3))
def L_law13_Small (x_ref01_Int : Ty_ref01_Int) (x_ref01_Text : Ty_ref01_Text) : LoopK := noneL
def Sp.B_law13_Small (x_ref01_Int : Ty_ref01_Int) (x_ref01_Text : Ty_ref01_Text) (v_name : ByteArray) (γ : Type) (K : ByteArray → List (List Dat) → List (List Dat) → Option γ) : Option γ := x_ref01_Int 1 γ fun z3 z4 z5 => x_ref01_Text (bs [120]) γ fun z6 z7 z8 => x_ref01_Int 2 γ fun z9 z10 z11 => K v_name [[str (bs []), str (bs [97]), int i64 2], [str (bs []), str (bs [98]), int i64 3]] [[sl [[int i64 z3, int i64 z4, str z5], [int i64 z6, int i64 z7, str z8]]], [sl [[int i64 z9, int i64 z10, str z11], [int i64 0, int i64 0, str (bs [])]]]]
theorem e_law13_Small (p : Par) (x_ref01_Int x_ref01_Text v_name) (γ : Type) (K : List Ent × Sig → Option γ) : evFK (cfg p) (T_law13_Small x_ref01_Int x_ref01_Text) (L_law13_Small x_ref01_Int x_ref01_Text) 29 [dat (str v_name)] [] γ K = Sp.B_law13_Small x_ref01_Int x_ref01_Text v_name γ (fun r0 r1 r2 => K ([(agg [(str r0, Own.none), (sl r1, Own.none), (sl r2, Own.none)], Own.none)], [])) := by kernel_rfl
def Sp.law13_Small : Ty_law13_Small := Sp.B_law13_Small Sp.ref01_Int Sp.ref01_Text
theorem E_law13_Small (p : Par) {F : Ent3} (hF : EntOk (cfg p) 29 F) : EntOk (cfg p) 29 (P_law13_Small Sp.law13_Small F) := by
  intro a s γ K q h
  unfold P_law13_Small at h
  split at h
  · exact body_ok (tab_call (tab_call (tab_nil _) (E_ref01_Int p (ent_none _ _))) (E_ref01_Text p (ent_none _ _))) rfl ((e_law13_Small p _ _ _ _ _).trans h)
  · exact hF _ _ _ _ _ h
abbrev Ty_catalog_Find_1 : Type 1 := ByteArray → List (List Dat) → List (List Dat) → ByteArray → (γ : Type) → (Bool → ByteArray → Option γ) → Option γ
def P_catalog_Find_1 (X : Ty_catalog_Find_1) (F : Ent3) : Ent3 := fun a s γ K => match a, s with
  | [agg [(str v_t0, Own.none), (sl v_t1, Own.none), (sl v_t2, Own.none)], AVal.ref 0 0], [Box.cells [dat (str b)]] => X v_t0 v_t1 v_t2 b γ (fun r0 r1 => K ([(dat (Dat.bool r0), Own.none)], [Box.cells [dat (str r1)]]))
  | a, s => F a s γ K
def T_catalog_Find_1 : CallK := noneK
def L_catalog_Find_1 : LoopK := noneL
def Sp.B_catalog_Find_1 (v_t0 : ByteArray) (v_t1 v_t2 : List (List Dat)) (b : ByteArray) (γ : Type) (K : Bool → ByteArray → Option γ) : Option γ := K (decide (v_t0 = b)) b
theorem e_catalog_Find_1 (p : Par) (v_t0 v_t1 v_t2 b) (γ : Type) (K : List Ent × Sig → Option γ) : evFK (cfg p) (T_catalog_Find_1) (L_catalog_Find_1) 31 [agg [(str v_t0, Own.none), (sl v_t1, Own.none), (sl v_t2, Own.none)], AVal.ref 0 0] [Box.cells [dat (str b)]] γ K = Sp.B_catalog_Find_1 v_t0 v_t1 v_t2 b γ (fun r0 r1 => K ([(dat (Dat.bool r0), Own.none)], [Box.cells [dat (str r1)]])) := by kernel_rfl
def Sp.catalog_Find_1 : Ty_catalog_Find_1 := Sp.B_catalog_Find_1 
theorem E_catalog_Find_1 (p : Par) {F : Ent3} (hF : EntOk (cfg p) 31 F) : EntOk (cfg p) 31 (P_catalog_Find_1 Sp.catalog_Find_1 F) := by
  intro a s γ K q h
  unfold P_catalog_Find_1 at h
  split at h
  · exact body_ok (tab_nil _) rfl ((e_catalog_Find_1 p _ _ _ _ _ _).trans h)
  · exact hF _ _ _ _ _ h
abbrev Ty_slices_IndexFunc_api_Table_api_Table_L0 : Type 1 := List (List Dat) → Int → Int → Int → ByteArray → (γ : Type) → (Ex → Int → Int → ByteArray → Option γ) → Option γ
def P_slices_IndexFunc_api_Table_api_Table_L0 (X : Ty_slices_IndexFunc_api_Table_api_Table_L0) (F : Loop3) : Loop3 := fun a s γ K => match a, s with
  | [dat (sl v_s), AVal.clo (Fn.func 31) [] [AVal.ref 0 0], dat (int i64 v_)], ([dat (int i64 v__1), dat (int i64 v__2)], [Box.cells [dat (str b)]]) => X v_s v_ v__1 v__2 b γ (fun e x0 x1 x2 => K (e, ([dat (int i64 x0), dat (int i64 x1)], [Box.cells [dat (str x2)]])))
  | a, s => F a s γ K
def T_slices_IndexFunc_api_Table_api_Table_L0 (x_catalog_Find_1 : Ty_catalog_Find_1) : CallK := (addK noneK 31 (P_catalog_Find_1 x_catalog_Find_1 none3))
def L_slices_IndexFunc_api_Table_api_Table_L0 (x_catalog_Find_1 : Ty_catalog_Find_1) : LoopK := noneL
def Sp.B_slices_IndexFunc_api_Table_api_Table_L0 (x_slices_IndexFunc_api_Table_api_Table_L0 : Ty_slices_IndexFunc_api_Table_api_Table_L0) (x_catalog_Find_1 : Ty_catalog_Find_1) (v_s : List (List Dat)) (v_ v__1 v__2 : Int) (b : ByteArray) (γ : Type) (K : Ex → Int → Int → ByteArray → Option γ) : Option γ := bif decide (v__2 < v_) then elemAt v_s v__2 fun z7 => bif List.length z7 == 3 then cellAt z7 0 fun z8 => asStr z8 fun z9 => cellAt z7 1 fun z10 => asSl z10 fun z11 => cellAt z7 2 fun z12 => asSl z12 fun z13 => x_catalog_Find_1 z9 z11 z13 b γ fun z14 z15 => bif z14 then K Ex.ret v__2 v__2 z15 else x_slices_IndexFunc_api_Table_api_Table_L0 v_s v_ v__1 (IntKind.wrap i64 (v__2 + 1)) z15 γ K else none else K (Ex.exit 0) v__1 v__2 b
theorem e_slices_IndexFunc_api_Table_api_Table_L0 (p : Par) (x_slices_IndexFunc_api_Table_api_Table_L0 : Ty_slices_IndexFunc_api_Table_api_Table_L0) (x_catalog_Find_1 v_s v_ v__1 v__2 b) (γ : Type) (K : Ex × Vars → Option γ) : roundK (cfg p) (T_slices_IndexFunc_api_Table_api_Table_L0 x_catalog_Find_1) (L_slices_IndexFunc_api_Table_api_Table_L0 x_catalog_Find_1) 30 0 [dat (sl v_s), AVal.clo (Fn.func 31) [] [AVal.ref 0 0], dat (int i64 v_)] ([dat (int i64 v__1), dat (int i64 v__2)], [Box.cells [dat (str b)]]) γ (contL (fun v => P_slices_IndexFunc_api_Table_api_Table_L0 x_slices_IndexFunc_api_Table_api_Table_L0 noneL3 [dat (sl v_s), AVal.clo (Fn.func 31) [] [AVal.ref 0 0], dat (int i64 v_)] v γ K) K) = Sp.B_slices_IndexFunc_api_Table_api_Table_L0 x_slices_IndexFunc_api_Table_api_Table_L0 x_catalog_Find_1 v_s v_ v__1 v__2 b γ (fun e x0 x1 x2 => K (e, ([dat (int i64 x0), dat (int i64 x1)], [Box.cells [dat (str x2)]]))) := by kernel_rfl
def Sp.slices_IndexFunc_api_Table_api_Table_L0 : Nat → Ty_slices_IndexFunc_api_Table_api_Table_L0
  | 0 => fun _ _ _ _ _ _ _ => none
  | n + 1 => Sp.B_slices_IndexFunc_api_Table_api_Table_L0 (Sp.slices_IndexFunc_api_Table_api_Table_L0 n) Sp.catalog_Find_1
theorem E0_slices_IndexFunc_api_Table_api_Table_L0 (p : Par)   : ∀ n, EntOkL (cfg p) 30 0 (P_slices_IndexFunc_api_Table_api_Table_L0 (Sp.slices_IndexFunc_api_Table_api_Table_L0 n) noneL3) := entL_rounds (tab_call (tab_nil _) (E_catalog_Find_1 p (ent_none _ _))) (by kernel_rfl) (fun c v γ K => by unfold P_slices_IndexFunc_api_Table_api_Table_L0; split <;> rfl) fun n c v γ K q h => by
  unfold P_slices_IndexFunc_api_Table_api_Table_L0 at h
  split at h
  · exact (e_slices_IndexFunc_api_Table_api_Table_L0 p _ _ _ _ _ _ _ _ _).trans h
  · cases h
theorem E_slices_IndexFunc_api_Table_api_Table_L0 (p : Par)   (n : Nat) {F : Loop3} (hF : EntOkL (cfg p) 30 0 F) : EntOkL (cfg p) 30 0 (P_slices_IndexFunc_api_Table_api_Table_L0 (Sp.slices_IndexFunc_api_Table_api_Table_L0 n) F) := by
  intro c v γ K q h
  unfold P_slices_IndexFunc_api_Table_api_Table_L0 at h
  split at h
  · exact E0_slices_IndexFunc_api_Table_api_Table_L0 p n _ _ _ _ _ h
  · exact hF _ _ _ _ _ h
abbrev Ty_slices_IndexFunc_api_Table_api_Table : Type 1 := List (List Dat) → ByteArray → (γ : Type) → (Int → ByteArray → Option γ) → Option γ
def P_slices_IndexFunc_api_Table_api_Table (X : Ty_slices_IndexFunc_api_Table_api_Table) (F : Ent3) : Ent3 := fun a s γ K => match a, s with
  | [dat (sl v_s), AVal.clo (Fn.func 31) [] [AVal.ref 0 0]], [Box.cells [dat (str b)]] => X v_s b γ (fun r0 r1 => K ([(dat (int i64 r0), Own.none)], [Box.cells [dat (str r1)]]))
  | a, s => F a s γ K
def T_slices_IndexFunc_api_Table_api_Table (x_slices_IndexFunc_api_Table_api_Table_L0 : Ty_slices_IndexFunc_api_Table_api_Table_L0) : CallK := noneK
def L_slices_IndexFunc_api_Table_api_Table (x_slices_IndexFunc_api_Table_api_Table_L0 : Ty_slices_IndexFunc_api_Table_api_Table_L0) : LoopK := (addL noneL 30 0 (P_slices_IndexFunc_api_Table_api_Table_L0 x_slices_IndexFunc_api_Table_api_Table_L0 noneL3))
def Sp.B_slices_IndexFunc_api_Table_api_Table (x_slices_IndexFunc_api_Table_api_Table_L0 : Ty_slices_IndexFunc_api_Table_api_Table_L0) (v_s : List (List Dat)) (b : ByteArray) (γ : Type) (K : Int → ByteArray → Option γ) : Option γ := x_slices_IndexFunc_api_Table_api_Table_L0 v_s (Int.ofNat (List.length v_s)) 0 0 b γ fun z4 z5 z6 z7 => bif Ex.isExit z4 0 then K (-1) z7 else bif Ex.isRet z4 then K z5 z7 else none
theorem e_slices_IndexFunc_api_Table_api_Table (p : Par) (x_slices_IndexFunc_api_Table_api_Table_L0 v_s b) (γ : Type) (K : List Ent × Sig → Option γ) : evFK (cfg p) (T_slices_IndexFunc_api_Table_api_Table x_slices_IndexFunc_api_Table_api_Table_L0) (L_slices_IndexFunc_api_Table_api_Table x_slices_IndexFunc_api_Table_api_Table_L0) 30 [dat (sl v_s), AVal.clo (Fn.func 31) [] [AVal.ref 0 0]] [Box.cells [dat (str b)]] γ K = Sp.B_slices_IndexFunc_api_Table_api_Table x_slices_IndexFunc_api_Table_api_Table_L0 v_s b γ (fun r0 r1 => K ([(dat (int i64 r0), Own.none)], [Box.cells [dat (str r1)]])) := by kernel_rfl
def Sp.slices_IndexFunc_api_Table_api_Table : Ty_slices_IndexFunc_api_Table_api_Table := Sp.B_slices_IndexFunc_api_Table_api_Table (Sp.slices_IndexFunc_api_Table_api_Table_L0 fuel)
theorem E_slices_IndexFunc_api_Table_api_Table (p : Par) {F : Ent3} (hF : EntOk (cfg p) 30 F) : EntOk (cfg p) 30 (P_slices_IndexFunc_api_Table_api_Table Sp.slices_IndexFunc_api_Table_api_Table F) := by
  intro a s γ K q h
  unfold P_slices_IndexFunc_api_Table_api_Table at h
  split at h
  · exact body_ok (tab_loop (tab_nil _) (E_slices_IndexFunc_api_Table_api_Table_L0 p fuel (entL_none _ _ _))) rfl ((e_slices_IndexFunc_api_Table_api_Table p _ _ _ _ _).trans h)
  · exact hF _ _ _ _ _ h
abbrev Ty_catalog_Find : Type 1 := List (List Dat) → ByteArray → (γ : Type) → (ByteArray → List (List Dat) → List (List Dat) → Bool → Option γ) → Option γ
def P_catalog_Find (X : Ty_catalog_Find) (F : Ent3) : Ent3 := fun a s γ K => match a, s with
  | [dat (sl v_c), dat (str v_name)], [] => X v_c v_name γ (fun r0 r1 r2 r3 => K ([(agg [(str r0, Own.none), (sl r1, Own.none), (sl r2, Own.none)], Own.none), (dat (Dat.bool r3), Own.none)], []))
  | a, s => F a s γ K
def T_catalog_Find (x_slices_IndexFunc_api_Table_api_Table : Ty_slices_IndexFunc_api_Table_api_Table) : CallK := (addK noneK 30 (P_slices_IndexFunc_api_Table_api_Table x_slices_IndexFunc_api_Table_api_Table none3))
def L_catalog_Find (x_slices_IndexFunc_api_Table_api_Table : Ty_slices_IndexFunc_api_Table_api_Table) : LoopK := noneL
def Sp.B_catalog_Find (x_slices_IndexFunc_api_Table_api_Table : Ty_slices_IndexFunc_api_Table_api_Table) (v_c : List (List Dat)) (v_name : ByteArray) (γ : Type) (K : ByteArray → List (List Dat) → List (List Dat) → Bool → Option γ) : Option γ := x_slices_IndexFunc_api_Table_api_Table v_c v_name γ fun z4 z5 => bif decide (z4 < 0) then K (bs []) [] [] false else elemAt v_c z4 fun z6 => bif List.length z6 == 3 then cellAt z6 0 fun z7 => asStr z7 fun z8 => cellAt z6 1 fun z9 => asSl z9 fun z10 => cellAt z6 2 fun z11 => asSl z11 fun z12 => K z8 z10 z12 true else none
theorem e_catalog_Find (p : Par) (x_slices_IndexFunc_api_Table_api_Table v_c v_name) (γ : Type) (K : List Ent × Sig → Option γ) : evFK (cfg p) (T_catalog_Find x_slices_IndexFunc_api_Table_api_Table) (L_catalog_Find x_slices_IndexFunc_api_Table_api_Table) 11 [dat (sl v_c), dat (str v_name)] [] γ K = Sp.B_catalog_Find x_slices_IndexFunc_api_Table_api_Table v_c v_name γ (fun r0 r1 r2 r3 => K ([(agg [(str r0, Own.none), (sl r1, Own.none), (sl r2, Own.none)], Own.none), (dat (Dat.bool r3), Own.none)], [])) := by kernel_rfl
def Sp.catalog_Find : Ty_catalog_Find := Sp.B_catalog_Find Sp.slices_IndexFunc_api_Table_api_Table
theorem E_catalog_Find (p : Par) {F : Ent3} (hF : EntOk (cfg p) 11 F) : EntOk (cfg p) 11 (P_catalog_Find Sp.catalog_Find F) := by
  intro a s γ K q h
  unfold P_catalog_Find at h
  split at h
  · exact body_ok (tab_call (tab_nil _) (E_slices_IndexFunc_api_Table_api_Table p (ent_none _ _))) rfl ((e_catalog_Find p _ _ _ _ _).trans h)
  · exact hF _ _ _ _ _ h
abbrev Ty_lex_letter : Type 1 := Int → (γ : Type) → (Bool → Option γ) → Option γ
def P_lex_letter (X : Ty_lex_letter) (F : Ent3) : Ent3 := fun a s γ K => match a, s with
  | [dat (Dat.int IntKind.u8 v_c)], [] => X v_c γ (fun r0 => K ([(dat (Dat.bool r0), Own.none)], []))
  | a, s => F a s γ K
def T_lex_letter : CallK := noneK
def L_lex_letter : LoopK := noneL
def Sp.B_lex_letter (v_c : Int) (γ : Type) (K : Bool → Option γ) : Option γ := bif decide (97 ≤ IntKind.wrap IntKind.u8 (Int.ofNat (BitVec.toFin (BitVec.ofInt (IntKind.bits IntKind.u8) v_c ||| BitVec.ofInt (IntKind.bits IntKind.u8) 32)).1)) then bif decide (IntKind.wrap IntKind.u8 (Int.ofNat (BitVec.toFin (BitVec.ofInt (IntKind.bits IntKind.u8) v_c ||| BitVec.ofInt (IntKind.bits IntKind.u8) 32)).1) ≤ 122) then K true else K (decide (v_c = 95)) else K (decide (v_c = 95))
theorem e_lex_letter (p : Par) (v_c) (γ : Type) (K : List Ent × Sig → Option γ) : evFK (cfg p) (T_lex_letter) (L_lex_letter) 63 [dat (Dat.int IntKind.u8 v_c)] [] γ K = Sp.B_lex_letter v_c γ (fun r0 => K ([(dat (Dat.bool r0), Own.none)], [])) := by kernel_rfl
def Sp.lex_letter : Ty_lex_letter := Sp.B_lex_letter 
theorem E_lex_letter (p : Par) {F : Ent3} (hF : EntOk (cfg p) 63 F) : EntOk (cfg p) 63 (P_lex_letter Sp.lex_letter F) := by
  intro a s γ K q h
  unfold P_lex_letter at h
  split at h
  · exact body_ok (tab_nil _) rfl ((e_lex_letter p _ _ _).trans h)
  · exact hF _ _ _ _ _ h
abbrev Ty_lex_scanner_left : Type 1 := ByteArray → Int → (γ : Type) → (Bool → ByteArray → Int → Option γ) → Option γ
def P_lex_scanner_left (X : Ty_lex_scanner_left) (F : Ent3) : Ent3 := fun a s γ K => match a, s with
  | [AVal.ref 0 0], [Box.cells [dat (str b0), dat (int i64 b1)]] => X b0 b1 γ (fun r0 r1 r2 => K ([(dat (Dat.bool r0), Own.none)], [Box.cells [dat (str r1), dat (int i64 r2)]]))
  | a, s => F a s γ K
def T_lex_scanner_left : CallK := noneK
def L_lex_scanner_left : LoopK := noneL
def Sp.B_lex_scanner_left (b0 : ByteArray) (b1 : Int) (γ : Type) (K : Bool → ByteArray → Int → Option γ) : Option γ := K (decide (b1 < Int.ofNat (ByteArray.size b0))) b0 b1
theorem e_lex_scanner_left (p : Par) (b0 b1) (γ : Type) (K : List Ent × Sig → Option γ) : evFK (cfg p) (T_lex_scanner_left) (L_lex_scanner_left) 87 [AVal.ref 0 0] [Box.cells [dat (str b0), dat (int i64 b1)]] γ K = Sp.B_lex_scanner_left b0 b1 γ (fun r0 r1 r2 => K ([(dat (Dat.bool r0), Own.none)], [Box.cells [dat (str r1), dat (int i64 r2)]])) := by kernel_rfl
def Sp.lex_scanner_left : Ty_lex_scanner_left := Sp.B_lex_scanner_left 
theorem E_lex_scanner_left (p : Par) {F : Ent3} (hF : EntOk (cfg p) 87 F) : EntOk (cfg p) 87 (P_lex_scanner_left Sp.lex_scanner_left F) := by
  intro a s γ K q h
  unfold P_lex_scanner_left at h
  split at h
  · exact body_ok (tab_nil _) rfl ((e_lex_scanner_left p _ _ _ _).trans h)
  · exact hF _ _ _ _ _ h
abbrev Ty_lex_digit : Type 1 := Int → (γ : Type) → (Bool → Option γ) → Option γ
def P_lex_digit (X : Ty_lex_digit) (F : Ent3) : Ent3 := fun a s γ K => match a, s with
  | [dat (Dat.int IntKind.u8 v_c)], [] => X v_c γ (fun r0 => K ([(dat (Dat.bool r0), Own.none)], []))
  | a, s => F a s γ K
def T_lex_digit : CallK := noneK
def L_lex_digit : LoopK := noneL
def Sp.B_lex_digit (v_c : Int) (γ : Type) (K : Bool → Option γ) : Option γ := bif decide (48 ≤ v_c) then K (decide (v_c ≤ 57)) else K false
theorem e_lex_digit (p : Par) (v_c) (γ : Type) (K : List Ent × Sig → Option γ) : evFK (cfg p) (T_lex_digit) (L_lex_digit) 88 [dat (Dat.int IntKind.u8 v_c)] [] γ K = Sp.B_lex_digit v_c γ (fun r0 => K ([(dat (Dat.bool r0), Own.none)], [])) := by kernel_rfl
def Sp.lex_digit : Ty_lex_digit := Sp.B_lex_digit 
theorem E_lex_digit (p : Par) {F : Ent3} (hF : EntOk (cfg p) 88 F) : EntOk (cfg p) 88 (P_lex_digit Sp.lex_digit F) := by
  intro a s γ K q h
  unfold P_lex_digit at h
  split at h
  · exact body_ok (tab_nil _) rfl ((e_lex_digit p _ _ _).trans h)
  · exact hF _ _ _ _ _ h
abbrev Ty_lex_scanner_run_L0 : Type 1 := Int → ByteArray → Int → (γ : Type) → (Ex → ByteArray → Int → Option γ) → Option γ
def P_lex_scanner_run_L0 (X : Ty_lex_scanner_run_L0) (F : Loop3) : Loop3 := fun a s γ K => match a, s with
  | [AVal.ref 0 0, dat (int i64 v_from)], ([], [Box.cells [dat (str b0), dat (int i64 b1)]]) => X v_from b0 b1 γ (fun e x0 x1 => K (e, ([], [Box.cells [dat (str x0), dat (int i64 x1)]])))
  | a, s => F a s γ K
def T_lex_scanner_run_L0 (x_lex_scanner_left : Ty_lex_scanner_left) (x_lex_letter : Ty_lex_letter) (x_lex_digit : Ty_lex_digit) : CallK := (addK (addK (addK noneK 87 (P_lex_scanner_left x_lex_scanner_left none3)) 63 (P_lex_letter x_lex_letter none3)) 88 (P_lex_digit x_lex_digit none3))
def L_lex_scanner_run_L0 (x_lex_scanner_left : Ty_lex_scanner_left) (x_lex_letter : Ty_lex_letter) (x_lex_digit : Ty_lex_digit) : LoopK := noneL
def Sp.B_lex_scanner_run_L0 (x_lex_scanner_run_L0 : Ty_lex_scanner_run_L0) (x_lex_scanner_left : Ty_lex_scanner_left) (x_lex_letter : Ty_lex_letter) (x_lex_digit : Ty_lex_digit) (v_from : Int) (b0 : ByteArray) (b1 : Int) (γ : Type) (K : Ex → ByteArray → Int → Option γ) : Option γ := x_lex_scanner_left b0 b1 γ fun z5 z6 z7 => bif z5 then byteAt z6 z7 fun z8 => x_lex_letter (Int.ofNat (BitVec.toFin (UInt8.toBitVec z8)).1) γ fun z9 => bif z9 then x_lex_scanner_run_L0 v_from z6 (IntKind.wrap i64 (z7 + 1)) γ K else byteAt z6 z7 fun z10 => x_lex_digit (Int.ofNat (BitVec.toFin (UInt8.toBitVec z10)).1) γ fun z11 => bif z11 then x_lex_scanner_run_L0 v_from z6 (IntKind.wrap i64 (z7 + 1)) γ K else K (Ex.exit 0) z6 z7 else K (Ex.exit 0) z6 z7
theorem e_lex_scanner_run_L0 (p : Par) (x_lex_scanner_run_L0 : Ty_lex_scanner_run_L0) (x_lex_scanner_left x_lex_letter x_lex_digit v_from b0 b1) (γ : Type) (K : Ex × Vars → Option γ) : roundK (cfg p) (T_lex_scanner_run_L0 x_lex_scanner_left x_lex_letter x_lex_digit) (L_lex_scanner_run_L0 x_lex_scanner_left x_lex_letter x_lex_digit) 64 0 [AVal.ref 0 0, dat (int i64 v_from)] ([], [Box.cells [dat (str b0), dat (int i64 b1)]]) γ (contL (fun v => P_lex_scanner_run_L0 x_lex_scanner_run_L0 noneL3 [AVal.ref 0 0, dat (int i64 v_from)] v γ K) K) = Sp.B_lex_scanner_run_L0 x_lex_scanner_run_L0 x_lex_scanner_left x_lex_letter x_lex_digit v_from b0 b1 γ (fun e x0 x1 => K (e, ([], [Box.cells [dat (str x0), dat (int i64 x1)]]))) := by kernel_rfl
def Sp.lex_scanner_run_L0 : Nat → Ty_lex_scanner_run_L0
  | 0 => fun _ _ _ _ _ => none
  | n + 1 => Sp.B_lex_scanner_run_L0 (Sp.lex_scanner_run_L0 n) Sp.lex_scanner_left Sp.lex_letter Sp.lex_digit
theorem E0_lex_scanner_run_L0 (p : Par)   : ∀ n, EntOkL (cfg p) 64 0 (P_lex_scanner_run_L0 (Sp.lex_scanner_run_L0 n) noneL3) := entL_rounds (tab_call (tab_call (tab_call (tab_nil _) (E_lex_scanner_left p (ent_none _ _))) (E_lex_letter p (ent_none _ _))) (E_lex_digit p (ent_none _ _))) (by kernel_rfl) (fun c v γ K => by unfold P_lex_scanner_run_L0; split <;> rfl) fun n c v γ K q h => by
  unfold P_lex_scanner_run_L0 at h
  split at h
  · exact (e_lex_scanner_run_L0 p _ _ _ _ _ _ _ _ _).trans h
  · cases h
theorem E_lex_scanner_run_L0 (p : Par)   (n : Nat) {F : Loop3} (hF : EntOkL (cfg p) 64 0 F) : EntOkL (cfg p) 64 0 (P_lex_scanner_run_L0 (Sp.lex_scanner_run_L0 n) F) := by
  intro c v γ K q h
  unfold P_lex_scanner_run_L0 at h
  split at h
  · exact E0_lex_scanner_run_L0 p n _ _ _ _ _ h
  · exact hF _ _ _ _ _ h
abbrev Ty_lex_scanner_run : Type 1 := ByteArray → Int → (γ : Type) → (ByteArray → ByteArray → Int → Option γ) → Option γ
def P_lex_scanner_run (X : Ty_lex_scanner_run) (F : Ent3) : Ent3 := fun a s γ K => match a, s with
  | [AVal.ref 0 0], [Box.cells [dat (str b0), dat (int i64 b1)]] => X b0 b1 γ (fun r0 r1 r2 => K ([(dat (str r0), Own.none)], [Box.cells [dat (str r1), dat (int i64 r2)]]))
  | a, s => F a s γ K
def T_lex_scanner_run (x_lex_scanner_run_L0 : Ty_lex_scanner_run_L0) : CallK := noneK
def L_lex_scanner_run (x_lex_scanner_run_L0 : Ty_lex_scanner_run_L0) : LoopK := (addL noneL 64 0 (P_lex_scanner_run_L0 x_lex_scanner_run_L0 noneL3))
def Sp.B_lex_scanner_run (x_lex_scanner_run_L0 : Ty_lex_scanner_run_L0) (b0 : ByteArray) (b1 : Int) (γ : Type) (K : ByteArray → ByteArray → Int → Option γ) : Option γ := x_lex_scanner_run_L0 b1 b0 b1 γ fun z4 z5 z6 => bif Ex.isExit z4 0 then bif decide (0 ≤ b1) && decide (b1 ≤ z6) && decide (z6 ≤ Int.ofNat (ByteArray.size z5)) && true then K (ByteArray.extract z5 (Int.toNat b1) (Int.toNat z6)) z5 z6 else none else bif Ex.isRet z4 then none else none
theorem e_lex_scanner_run (p : Par) (x_lex_scanner_run_L0 b0 b1) (γ : Type) (K : List Ent × Sig → Option γ) : evFK (cfg p) (T_lex_scanner_run x_lex_scanner_run_L0) (L_lex_scanner_run x_lex_scanner_run_L0) 64 [AVal.ref 0 0] [Box.cells [dat (str b0), dat (int i64 b1)]] γ K = Sp.B_lex_scanner_run x_lex_scanner_run_L0 b0 b1 γ (fun r0 r1 r2 => K ([(dat (str r0), Own.none)], [Box.cells [dat (str r1), dat (int i64 r2)]])) := by kernel_rfl
def Sp.lex_scanner_run : Ty_lex_scanner_run := Sp.B_lex_scanner_run (Sp.lex_scanner_run_L0 fuel)
theorem E_lex_scanner_run (p : Par) {F : Ent3} (hF : EntOk (cfg p) 64 F) : EntOk (cfg p) 64 (P_lex_scanner_run Sp.lex_scanner_run F) := by
  intro a s γ K q h
  unfold P_lex_scanner_run at h
  split at h
  · exact body_ok (tab_loop (tab_nil _) (E_lex_scanner_run_L0 p fuel (entL_none _ _ _))) rfl ((e_lex_scanner_run p _ _ _ _ _).trans h)
  · exact hF _ _ _ _ _ h
abbrev Ty_lex_Keys : Type 1 := (γ : Type) → (List (List Dat) → Option γ) → Option γ
def P_lex_Keys (X : Ty_lex_Keys) (F : Ent3) : Ent3 := fun a s γ K => match a, s with
  | [], [] => X γ (fun r0 => K ([(dat (sl r0), Own.none)], []))
  | a, s => F a s γ K
def T_lex_Keys (x_strings_Split : Ty_strings_Split) : CallK := (addK noneK 104 (P_strings_Split x_strings_Split none3))
def L_lex_Keys (x_strings_Split : Ty_strings_Split) : LoopK := noneL
def Sp.B_lex_Keys (x_strings_Split : Ty_strings_Split)  (γ : Type) (K : List (List Dat) → Option γ) : Option γ := x_strings_Split (bs [65, 76, 76, 32, 65, 78, 68, 32, 65, 78, 84, 73, 32, 65, 83, 32, 66, 89, 32, 67, 79, 85, 78, 84, 32, 68, 69, 83, 67, 32, 68, 73, 83, 84, 73, 78, 67, 84, 32, 70, 65, 76, 83, 69, 32, 70, 82, 79, 77, 32, 71, 82, 79, 85, 80, 32, 73, 83, 32, 74, 79, 73, 78, 32, 76, 69, 70, 84, 32, 76, 73, 77, 73, 84, 32, 77, 65, 88, 32, 77, 73, 78, 32, 78, 79, 84, 32, 78, 85, 76, 76, 32, 79, 78, 32, 79, 82, 32, 79, 82, 68, 69, 82, 32, 83, 69, 76, 69, 67, 84, 32, 83, 69, 77, 73, 32, 83, 85, 77, 32, 84, 82, 85, 69, 32, 85, 78, 73, 79, 78, 32, 87, 72, 69, 82, 69]) (bs [32]) γ fun z2 => K z2
theorem e_lex_Keys (p : Par) (x_strings_Split) (γ : Type) (K : List Ent × Sig → Option γ) : evFK (cfg p) (T_lex_Keys x_strings_Split) (L_lex_Keys x_strings_Split) 90 [] [] γ K = Sp.B_lex_Keys x_strings_Split γ (fun r0 => K ([(dat (sl r0), Own.none)], [])) := by kernel_rfl
def Sp.lex_Keys : Ty_lex_Keys := Sp.B_lex_Keys Sp.strings_Split
theorem E_lex_Keys (p : Par) {F : Ent3} (hF : EntOk (cfg p) 90 F) : EntOk (cfg p) 90 (P_lex_Keys Sp.lex_Keys F) := by
  intro a s γ K q h
  unfold P_lex_Keys at h
  split at h
  · exact body_ok (tab_call (tab_nil _) (E_strings_Split p (ent_none _ _))) rfl ((e_lex_Keys p _ _ _).trans h)
  · exact hF _ _ _ _ _ h
abbrev Ty_slices_Index_string_string_L0 : Type 1 := List (List Dat) → ByteArray → Int → Int → Int → (γ : Type) → (Ex → Int → Int → Option γ) → Option γ
def P_slices_Index_string_string_L0 (X : Ty_slices_Index_string_string_L0) (F : Loop3) : Loop3 := fun a s γ K => match a, s with
  | [dat (sl v_s), dat (str v_v), dat (int i64 v_)], ([dat (int i64 v__1), dat (int i64 v__2)], []) => X v_s v_v v_ v__1 v__2 γ (fun e x0 x1 => K (e, ([dat (int i64 x0), dat (int i64 x1)], [])))
  | a, s => F a s γ K
def T_slices_Index_string_string_L0 : CallK := noneK
def L_slices_Index_string_string_L0 : LoopK := noneL
def Sp.B_slices_Index_string_string_L0 (x_slices_Index_string_string_L0 : Ty_slices_Index_string_string_L0)  (v_s : List (List Dat)) (v_v : ByteArray) (v_ v__1 v__2 : Int) (γ : Type) (K : Ex → Int → Int → Option γ) : Option γ := bif decide (v__2 < v_) then elemAt v_s v__2 fun z7 => bif List.length z7 == 1 then cellAt z7 0 fun z8 => asStr z8 fun z9 => bif decide (v_v = z9) then K Ex.ret v__2 v__2 else x_slices_Index_string_string_L0 v_s v_v v_ v__1 (IntKind.wrap i64 (v__2 + 1)) γ K else none else K (Ex.exit 0) v__1 v__2
theorem e_slices_Index_string_string_L0 (p : Par) (x_slices_Index_string_string_L0 : Ty_slices_Index_string_string_L0) (v_s v_v v_ v__1 v__2) (γ : Type) (K : Ex × Vars → Option γ) : roundK (cfg p) (T_slices_Index_string_string_L0) (L_slices_Index_string_string_L0) 103 0 [dat (sl v_s), dat (str v_v), dat (int i64 v_)] ([dat (int i64 v__1), dat (int i64 v__2)], []) γ (contL (fun v => P_slices_Index_string_string_L0 x_slices_Index_string_string_L0 noneL3 [dat (sl v_s), dat (str v_v), dat (int i64 v_)] v γ K) K) = Sp.B_slices_Index_string_string_L0 x_slices_Index_string_string_L0 v_s v_v v_ v__1 v__2 γ (fun e x0 x1 => K (e, ([dat (int i64 x0), dat (int i64 x1)], []))) := by kernel_rfl
def Sp.slices_Index_string_string_L0 : Nat → Ty_slices_Index_string_string_L0
  | 0 => fun _ _ _ _ _ _ _ => none
  | n + 1 => Sp.B_slices_Index_string_string_L0 (Sp.slices_Index_string_string_L0 n) 
theorem E0_slices_Index_string_string_L0 (p : Par)   : ∀ n, EntOkL (cfg p) 103 0 (P_slices_Index_string_string_L0 (Sp.slices_Index_string_string_L0 n) noneL3) := entL_rounds (tab_nil _) (by kernel_rfl) (fun c v γ K => by unfold P_slices_Index_string_string_L0; split <;> rfl) fun n c v γ K q h => by
  unfold P_slices_Index_string_string_L0 at h
  split at h
  · exact (e_slices_Index_string_string_L0 p _ _ _ _ _ _ _ _).trans h
  · cases h
theorem E_slices_Index_string_string_L0 (p : Par)   (n : Nat) {F : Loop3} (hF : EntOkL (cfg p) 103 0 F) : EntOkL (cfg p) 103 0 (P_slices_Index_string_string_L0 (Sp.slices_Index_string_string_L0 n) F) := by
  intro c v γ K q h
  unfold P_slices_Index_string_string_L0 at h
  split at h
  · exact E0_slices_Index_string_string_L0 p n _ _ _ _ _ h
  · exact hF _ _ _ _ _ h
abbrev Ty_slices_Index_string_string : Type 1 := List (List Dat) → ByteArray → (γ : Type) → (Int → Option γ) → Option γ
def P_slices_Index_string_string (X : Ty_slices_Index_string_string) (F : Ent3) : Ent3 := fun a s γ K => match a, s with
  | [dat (sl v_s), dat (str v_v)], [] => X v_s v_v γ (fun r0 => K ([(dat (int i64 r0), Own.none)], []))
  | a, s => F a s γ K
def T_slices_Index_string_string (x_slices_Index_string_string_L0 : Ty_slices_Index_string_string_L0) : CallK := noneK
def L_slices_Index_string_string (x_slices_Index_string_string_L0 : Ty_slices_Index_string_string_L0) : LoopK := (addL noneL 103 0 (P_slices_Index_string_string_L0 x_slices_Index_string_string_L0 noneL3))
def Sp.B_slices_Index_string_string (x_slices_Index_string_string_L0 : Ty_slices_Index_string_string_L0) (v_s : List (List Dat)) (v_v : ByteArray) (γ : Type) (K : Int → Option γ) : Option γ := x_slices_Index_string_string_L0 v_s v_v (Int.ofNat (List.length v_s)) 0 0 γ fun z4 z5 z6 => bif Ex.isExit z4 0 then K (-1) else bif Ex.isRet z4 then K z5 else none
theorem e_slices_Index_string_string (p : Par) (x_slices_Index_string_string_L0 v_s v_v) (γ : Type) (K : List Ent × Sig → Option γ) : evFK (cfg p) (T_slices_Index_string_string x_slices_Index_string_string_L0) (L_slices_Index_string_string x_slices_Index_string_string_L0) 103 [dat (sl v_s), dat (str v_v)] [] γ K = Sp.B_slices_Index_string_string x_slices_Index_string_string_L0 v_s v_v γ (fun r0 => K ([(dat (int i64 r0), Own.none)], [])) := by kernel_rfl
def Sp.slices_Index_string_string : Ty_slices_Index_string_string := Sp.B_slices_Index_string_string (Sp.slices_Index_string_string_L0 fuel)
theorem E_slices_Index_string_string (p : Par) {F : Ent3} (hF : EntOk (cfg p) 103 F) : EntOk (cfg p) 103 (P_slices_Index_string_string Sp.slices_Index_string_string F) := by
  intro a s γ K q h
  unfold P_slices_Index_string_string at h
  split at h
  · exact body_ok (tab_loop (tab_nil _) (E_slices_Index_string_string_L0 p fuel (entL_none _ _ _))) rfl ((e_slices_Index_string_string p _ _ _ _ _).trans h)
  · exact hF _ _ _ _ _ h
abbrev Ty_slices_Contains_string_string : Type 1 := List (List Dat) → ByteArray → (γ : Type) → (Bool → Option γ) → Option γ
def P_slices_Contains_string_string (X : Ty_slices_Contains_string_string) (F : Ent3) : Ent3 := fun a s γ K => match a, s with
  | [dat (sl v_s), dat (str v_v)], [] => X v_s v_v γ (fun r0 => K ([(dat (Dat.bool r0), Own.none)], []))
  | a, s => F a s γ K
def T_slices_Contains_string_string (x_slices_Index_string_string : Ty_slices_Index_string_string) : CallK := (addK noneK 103 (P_slices_Index_string_string x_slices_Index_string_string none3))
def L_slices_Contains_string_string (x_slices_Index_string_string : Ty_slices_Index_string_string) : LoopK := noneL
def Sp.B_slices_Contains_string_string (x_slices_Index_string_string : Ty_slices_Index_string_string) (v_s : List (List Dat)) (v_v : ByteArray) (γ : Type) (K : Bool → Option γ) : Option γ := x_slices_Index_string_string v_s v_v γ fun z4 => K (decide (0 ≤ z4))
theorem e_slices_Contains_string_string (p : Par) (x_slices_Index_string_string v_s v_v) (γ : Type) (K : List Ent × Sig → Option γ) : evFK (cfg p) (T_slices_Contains_string_string x_slices_Index_string_string) (L_slices_Contains_string_string x_slices_Index_string_string) 89 [dat (sl v_s), dat (str v_v)] [] γ K = Sp.B_slices_Contains_string_string x_slices_Index_string_string v_s v_v γ (fun r0 => K ([(dat (Dat.bool r0), Own.none)], [])) := by kernel_rfl
def Sp.slices_Contains_string_string : Ty_slices_Contains_string_string := Sp.B_slices_Contains_string_string Sp.slices_Index_string_string
theorem E_slices_Contains_string_string (p : Par) {F : Ent3} (hF : EntOk (cfg p) 89 F) : EntOk (cfg p) 89 (P_slices_Contains_string_string Sp.slices_Contains_string_string F) := by
  intro a s γ K q h
  unfold P_slices_Contains_string_string at h
  split at h
  · exact body_ok (tab_call (tab_nil _) (E_slices_Index_string_string p (ent_none _ _))) rfl ((e_slices_Contains_string_string p _ _ _ _ _).trans h)
  · exact hF _ _ _ _ _ h
abbrev Ty_lex_Key : Type 1 := ByteArray → (γ : Type) → (Bool → Option γ) → Option γ
def P_lex_Key (X : Ty_lex_Key) (F : Ent3) : Ent3 := fun a s γ K => match a, s with
  | [dat (str v_word)], [] => X v_word γ (fun r0 => K ([(dat (Dat.bool r0), Own.none)], []))
  | a, s => F a s γ K
def T_lex_Key (x_lex_Keys : Ty_lex_Keys) (x_slices_Contains_string_string : Ty_slices_Contains_string_string) : CallK := (addK (addK noneK 90 (P_lex_Keys x_lex_Keys none3)) 89 (P_slices_Contains_string_string x_slices_Contains_string_string none3))
def L_lex_Key (x_lex_Keys : Ty_lex_Keys) (x_slices_Contains_string_string : Ty_slices_Contains_string_string) : LoopK := noneL
def Sp.B_lex_Key (x_lex_Keys : Ty_lex_Keys) (x_slices_Contains_string_string : Ty_slices_Contains_string_string) (v_word : ByteArray) (γ : Type) (K : Bool → Option γ) : Option γ := x_lex_Keys γ fun z3 => x_slices_Contains_string_string z3 v_word γ fun z4 => K z4
theorem e_lex_Key (p : Par) (x_lex_Keys x_slices_Contains_string_string v_word) (γ : Type) (K : List Ent × Sig → Option γ) : evFK (cfg p) (T_lex_Key x_lex_Keys x_slices_Contains_string_string) (L_lex_Key x_lex_Keys x_slices_Contains_string_string) 65 [dat (str v_word)] [] γ K = Sp.B_lex_Key x_lex_Keys x_slices_Contains_string_string v_word γ (fun r0 => K ([(dat (Dat.bool r0), Own.none)], [])) := by kernel_rfl
def Sp.lex_Key : Ty_lex_Key := Sp.B_lex_Key Sp.lex_Keys Sp.slices_Contains_string_string
theorem E_lex_Key (p : Par) {F : Ent3} (hF : EntOk (cfg p) 65 F) : EntOk (cfg p) 65 (P_lex_Key Sp.lex_Key F) := by
  intro a s γ K q h
  unfold P_lex_Key at h
  split at h
  · exact body_ok (tab_call (tab_call (tab_nil _) (E_lex_Keys p (ent_none _ _))) (E_slices_Contains_string_string p (ent_none _ _))) rfl ((e_lex_Key p _ _ _ _ _).trans h)
  · exact hF _ _ _ _ _ h
abbrev Ty_lex_Name : Type 1 := ByteArray → (γ : Type) → (Bool → Option γ) → Option γ
def P_lex_Name (X : Ty_lex_Name) (F : Ent3) : Ent3 := fun a s γ K => match a, s with
  | [dat (str v_s)], [] => X v_s γ (fun r0 => K ([(dat (Dat.bool r0), Own.none)], []))
  | a, s => F a s γ K
def T_lex_Name (x_lex_letter : Ty_lex_letter) (x_lex_scanner_run : Ty_lex_scanner_run) (x_lex_Key : Ty_lex_Key) : CallK := (addK (addK (addK noneK 63 (P_lex_letter x_lex_letter none3)) 64 (P_lex_scanner_run x_lex_scanner_run none3)) 65 (P_lex_Key x_lex_Key none3))
def L_lex_Name (x_lex_letter : Ty_lex_letter) (x_lex_scanner_run : Ty_lex_scanner_run) (x_lex_Key : Ty_lex_Key) : LoopK := noneL
def Sp.B_lex_Name (x_lex_letter : Ty_lex_letter) (x_lex_scanner_run : Ty_lex_scanner_run) (x_lex_Key : Ty_lex_Key) (v_s : ByteArray) (γ : Type) (K : Bool → Option γ) : Option γ := bif decide (v_s = bs []) then K false else byteAt v_s 0 fun z3 => x_lex_letter (Int.ofNat (BitVec.toFin (UInt8.toBitVec z3)).1) γ fun z4 => bif !z4 then K false else x_lex_scanner_run v_s 0 γ fun z5 z6 z7 => bif decide (z5 = v_s) then bif decide (Int.ofNat (ByteArray.size v_s) ≤ 24) then x_lex_Key v_s γ fun z8 => K !z8 else K false else K false
theorem e_lex_Name (p : Par) (x_lex_letter x_lex_scanner_run x_lex_Key v_s) (γ : Type) (K : List Ent × Sig → Option γ) : evFK (cfg p) (T_lex_Name x_lex_letter x_lex_scanner_run x_lex_Key) (L_lex_Name x_lex_letter x_lex_scanner_run x_lex_Key) 38 [dat (str v_s)] [] γ K = Sp.B_lex_Name x_lex_letter x_lex_scanner_run x_lex_Key v_s γ (fun r0 => K ([(dat (Dat.bool r0), Own.none)], [])) := by kernel_rfl
def Sp.lex_Name : Ty_lex_Name := Sp.B_lex_Name Sp.lex_letter Sp.lex_scanner_run Sp.lex_Key
theorem E_lex_Name (p : Par) {F : Ent3} (hF : EntOk (cfg p) 38 F) : EntOk (cfg p) 38 (P_lex_Name Sp.lex_Name F) := by
  intro a s γ K q h
  unfold P_lex_Name at h
  split at h
  · exact body_ok (tab_call (tab_call (tab_call (tab_nil _) (E_lex_letter p (ent_none _ _))) (E_lex_scanner_run p (ent_none _ _))) (E_lex_Key p (ent_none _ _))) rfl ((e_lex_Name p _ _ _ _ _ _).trans h)
  · exact hF _ _ _ _ _ h
abbrev Ty_catalog_oddColumn : Type 1 := ByteArray → ByteArray → Int → (γ : Type) → (Bool → Option γ) → Option γ
def P_catalog_oddColumn (X : Ty_catalog_oddColumn) (F : Ent3) : Ent3 := fun a s γ K => match a, s with
  | [agg [(str v_c0, Own.none), (str v_c1, Own.none), (int i64 v_c2, Own.none)]], [] => X v_c0 v_c1 v_c2 γ (fun r0 => K ([(dat (Dat.bool r0), Own.none)], []))
  | a, s => F a s γ K
def T_catalog_oddColumn (x_lex_Name : Ty_lex_Name) : CallK := (addK noneK 38 (P_lex_Name x_lex_Name none3))
def L_catalog_oddColumn (x_lex_Name : Ty_lex_Name) : LoopK := noneL
def Sp.B_catalog_oddColumn (x_lex_Name : Ty_lex_Name) (v_c0 v_c1 : ByteArray) (v_c2 : Int) (γ : Type) (K : Bool → Option γ) : Option γ := bif !decide (v_c0 = bs []) then K true else x_lex_Name v_c1 γ fun z5 => bif !z5 then K true else bif decide (v_c2 < 1) then K true else K (decide (3 < v_c2))
theorem e_catalog_oddColumn (p : Par) (x_lex_Name v_c0 v_c1 v_c2) (γ : Type) (K : List Ent × Sig → Option γ) : evFK (cfg p) (T_catalog_oddColumn x_lex_Name) (L_catalog_oddColumn x_lex_Name) 40 [agg [(str v_c0, Own.none), (str v_c1, Own.none), (int i64 v_c2, Own.none)]] [] γ K = Sp.B_catalog_oddColumn x_lex_Name v_c0 v_c1 v_c2 γ (fun r0 => K ([(dat (Dat.bool r0), Own.none)], [])) := by kernel_rfl
def Sp.catalog_oddColumn : Ty_catalog_oddColumn := Sp.B_catalog_oddColumn Sp.lex_Name
theorem E_catalog_oddColumn (p : Par) {F : Ent3} (hF : EntOk (cfg p) 40 F) : EntOk (cfg p) 40 (P_catalog_oddColumn Sp.catalog_oddColumn F) := by
  intro a s γ K q h
  unfold P_catalog_oddColumn at h
  split at h
  · exact body_ok (tab_call (tab_nil _) (E_lex_Name p (ent_none _ _))) rfl ((e_catalog_oddColumn p _ _ _ _ _ _).trans h)
  · exact hF _ _ _ _ _ h
abbrev Ty_slices_IndexFunc_api_Column_api_Column_L0 : Type 1 := List (List Dat) → Int → Int → Int → (γ : Type) → (Ex → Int → Int → Option γ) → Option γ
def P_slices_IndexFunc_api_Column_api_Column_L0 (X : Ty_slices_IndexFunc_api_Column_api_Column_L0) (F : Loop3) : Loop3 := fun a s γ K => match a, s with
  | [dat (sl v_s), AVal.clo (Fn.func 40) [] [], dat (int i64 v_)], ([dat (int i64 v__1), dat (int i64 v__2)], []) => X v_s v_ v__1 v__2 γ (fun e x0 x1 => K (e, ([dat (int i64 x0), dat (int i64 x1)], [])))
  | a, s => F a s γ K
def T_slices_IndexFunc_api_Column_api_Column_L0 (x_catalog_oddColumn : Ty_catalog_oddColumn) : CallK := (addK noneK 40 (P_catalog_oddColumn x_catalog_oddColumn none3))
def L_slices_IndexFunc_api_Column_api_Column_L0 (x_catalog_oddColumn : Ty_catalog_oddColumn) : LoopK := noneL
def Sp.B_slices_IndexFunc_api_Column_api_Column_L0 (x_slices_IndexFunc_api_Column_api_Column_L0 : Ty_slices_IndexFunc_api_Column_api_Column_L0) (x_catalog_oddColumn : Ty_catalog_oddColumn) (v_s : List (List Dat)) (v_ v__1 v__2 : Int) (γ : Type) (K : Ex → Int → Int → Option γ) : Option γ := bif decide (v__2 < v_) then elemAt v_s v__2 fun z6 => bif List.length z6 == 3 then cellAt z6 0 fun z7 => asStr z7 fun z8 => cellAt z6 1 fun z9 => asStr z9 fun z10 => cellAt z6 2 fun z11 => Aev.asInt i64 z11 fun z12 => x_catalog_oddColumn z8 z10 z12 γ fun z13 => bif z13 then K Ex.ret v__2 v__2 else x_slices_IndexFunc_api_Column_api_Column_L0 v_s v_ v__1 (IntKind.wrap i64 (v__2 + 1)) γ K else none else K (Ex.exit 0) v__1 v__2
theorem e_slices_IndexFunc_api_Column_api_Column_L0 (p : Par) (x_slices_IndexFunc_api_Column_api_Column_L0 : Ty_slices_IndexFunc_api_Column_api_Column_L0) (x_catalog_oddColumn v_s v_ v__1 v__2) (γ : Type) (K : Ex × Vars → Option γ) : roundK (cfg p) (T_slices_IndexFunc_api_Column_api_Column_L0 x_catalog_oddColumn) (L_slices_IndexFunc_api_Column_api_Column_L0 x_catalog_oddColumn) 66 0 [dat (sl v_s), AVal.clo (Fn.func 40) [] [], dat (int i64 v_)] ([dat (int i64 v__1), dat (int i64 v__2)], []) γ (contL (fun v => P_slices_IndexFunc_api_Column_api_Column_L0 x_slices_IndexFunc_api_Column_api_Column_L0 noneL3 [dat (sl v_s), AVal.clo (Fn.func 40) [] [], dat (int i64 v_)] v γ K) K) = Sp.B_slices_IndexFunc_api_Column_api_Column_L0 x_slices_IndexFunc_api_Column_api_Column_L0 x_catalog_oddColumn v_s v_ v__1 v__2 γ (fun e x0 x1 => K (e, ([dat (int i64 x0), dat (int i64 x1)], []))) := by kernel_rfl
def Sp.slices_IndexFunc_api_Column_api_Column_L0 : Nat → Ty_slices_IndexFunc_api_Column_api_Column_L0
  | 0 => fun _ _ _ _ _ _ => none
  | n + 1 => Sp.B_slices_IndexFunc_api_Column_api_Column_L0 (Sp.slices_IndexFunc_api_Column_api_Column_L0 n) Sp.catalog_oddColumn
theorem E0_slices_IndexFunc_api_Column_api_Column_L0 (p : Par)   : ∀ n, EntOkL (cfg p) 66 0 (P_slices_IndexFunc_api_Column_api_Column_L0 (Sp.slices_IndexFunc_api_Column_api_Column_L0 n) noneL3) := entL_rounds (tab_call (tab_nil _) (E_catalog_oddColumn p (ent_none _ _))) (by kernel_rfl) (fun c v γ K => by unfold P_slices_IndexFunc_api_Column_api_Column_L0; split <;> rfl) fun n c v γ K q h => by
  unfold P_slices_IndexFunc_api_Column_api_Column_L0 at h
  split at h
  · exact (e_slices_IndexFunc_api_Column_api_Column_L0 p _ _ _ _ _ _ _ _).trans h
  · cases h
theorem E_slices_IndexFunc_api_Column_api_Column_L0 (p : Par)   (n : Nat) {F : Loop3} (hF : EntOkL (cfg p) 66 0 F) : EntOkL (cfg p) 66 0 (P_slices_IndexFunc_api_Column_api_Column_L0 (Sp.slices_IndexFunc_api_Column_api_Column_L0 n) F) := by
  intro c v γ K q h
  unfold P_slices_IndexFunc_api_Column_api_Column_L0 at h
  split at h
  · exact E0_slices_IndexFunc_api_Column_api_Column_L0 p n _ _ _ _ _ h
  · exact hF _ _ _ _ _ h
abbrev Ty_slices_IndexFunc_api_Column_api_Column : Type 1 := List (List Dat) → (γ : Type) → (Int → Option γ) → Option γ
def P_slices_IndexFunc_api_Column_api_Column (X : Ty_slices_IndexFunc_api_Column_api_Column) (F : Ent3) : Ent3 := fun a s γ K => match a, s with
  | [dat (sl v_s), AVal.clo (Fn.func 40) [] []], [] => X v_s γ (fun r0 => K ([(dat (int i64 r0), Own.none)], []))
  | a, s => F a s γ K
def T_slices_IndexFunc_api_Column_api_Column (x_slices_IndexFunc_api_Column_api_Column_L0 : Ty_slices_IndexFunc_api_Column_api_Column_L0) : CallK := noneK
def L_slices_IndexFunc_api_Column_api_Column (x_slices_IndexFunc_api_Column_api_Column_L0 : Ty_slices_IndexFunc_api_Column_api_Column_L0) : LoopK := (addL noneL 66 0 (P_slices_IndexFunc_api_Column_api_Column_L0 x_slices_IndexFunc_api_Column_api_Column_L0 noneL3))
def Sp.B_slices_IndexFunc_api_Column_api_Column (x_slices_IndexFunc_api_Column_api_Column_L0 : Ty_slices_IndexFunc_api_Column_api_Column_L0) (v_s : List (List Dat)) (γ : Type) (K : Int → Option γ) : Option γ := x_slices_IndexFunc_api_Column_api_Column_L0 v_s (Int.ofNat (List.length v_s)) 0 0 γ fun z3 z4 z5 => bif Ex.isExit z3 0 then K (-1) else bif Ex.isRet z3 then K z4 else none
theorem e_slices_IndexFunc_api_Column_api_Column (p : Par) (x_slices_IndexFunc_api_Column_api_Column_L0 v_s) (γ : Type) (K : List Ent × Sig → Option γ) : evFK (cfg p) (T_slices_IndexFunc_api_Column_api_Column x_slices_IndexFunc_api_Column_api_Column_L0) (L_slices_IndexFunc_api_Column_api_Column x_slices_IndexFunc_api_Column_api_Column_L0) 66 [dat (sl v_s), AVal.clo (Fn.func 40) [] []] [] γ K = Sp.B_slices_IndexFunc_api_Column_api_Column x_slices_IndexFunc_api_Column_api_Column_L0 v_s γ (fun r0 => K ([(dat (int i64 r0), Own.none)], [])) := by kernel_rfl
def Sp.slices_IndexFunc_api_Column_api_Column : Ty_slices_IndexFunc_api_Column_api_Column := Sp.B_slices_IndexFunc_api_Column_api_Column (Sp.slices_IndexFunc_api_Column_api_Column_L0 fuel)
theorem E_slices_IndexFunc_api_Column_api_Column (p : Par) {F : Ent3} (hF : EntOk (cfg p) 66 F) : EntOk (cfg p) 66 (P_slices_IndexFunc_api_Column_api_Column Sp.slices_IndexFunc_api_Column_api_Column F) := by
  intro a s γ K q h
  unfold P_slices_IndexFunc_api_Column_api_Column at h
  split at h
  · exact body_ok (tab_loop (tab_nil _) (E_slices_IndexFunc_api_Column_api_Column_L0 p fuel (entL_none _ _ _))) rfl ((e_slices_IndexFunc_api_Column_api_Column p _ _ _ _).trans h)
  · exact hF _ _ _ _ _ h
abbrev Ty_slices_ContainsFunc_api_Column_api_Column : Type 1 := List (List Dat) → (γ : Type) → (Bool → Option γ) → Option γ
def P_slices_ContainsFunc_api_Column_api_Column (X : Ty_slices_ContainsFunc_api_Column_api_Column) (F : Ent3) : Ent3 := fun a s γ K => match a, s with
  | [dat (sl v_s), AVal.clo (Fn.func 40) [] []], [] => X v_s γ (fun r0 => K ([(dat (Dat.bool r0), Own.none)], []))
  | a, s => F a s γ K
def T_slices_ContainsFunc_api_Column_api_Column (x_slices_IndexFunc_api_Column_api_Column : Ty_slices_IndexFunc_api_Column_api_Column) : CallK := (addK noneK 66 (P_slices_IndexFunc_api_Column_api_Column x_slices_IndexFunc_api_Column_api_Column none3))
def L_slices_ContainsFunc_api_Column_api_Column (x_slices_IndexFunc_api_Column_api_Column : Ty_slices_IndexFunc_api_Column_api_Column) : LoopK := noneL
def Sp.B_slices_ContainsFunc_api_Column_api_Column (x_slices_IndexFunc_api_Column_api_Column : Ty_slices_IndexFunc_api_Column_api_Column) (v_s : List (List Dat)) (γ : Type) (K : Bool → Option γ) : Option γ := x_slices_IndexFunc_api_Column_api_Column v_s γ fun z3 => K (decide (0 ≤ z3))
theorem e_slices_ContainsFunc_api_Column_api_Column (p : Par) (x_slices_IndexFunc_api_Column_api_Column v_s) (γ : Type) (K : List Ent × Sig → Option γ) : evFK (cfg p) (T_slices_ContainsFunc_api_Column_api_Column x_slices_IndexFunc_api_Column_api_Column) (L_slices_ContainsFunc_api_Column_api_Column x_slices_IndexFunc_api_Column_api_Column) 39 [dat (sl v_s), AVal.clo (Fn.func 40) [] []] [] γ K = Sp.B_slices_ContainsFunc_api_Column_api_Column x_slices_IndexFunc_api_Column_api_Column v_s γ (fun r0 => K ([(dat (Dat.bool r0), Own.none)], [])) := by kernel_rfl
def Sp.slices_ContainsFunc_api_Column_api_Column : Ty_slices_ContainsFunc_api_Column_api_Column := Sp.B_slices_ContainsFunc_api_Column_api_Column Sp.slices_IndexFunc_api_Column_api_Column
theorem E_slices_ContainsFunc_api_Column_api_Column (p : Par) {F : Ent3} (hF : EntOk (cfg p) 39 F) : EntOk (cfg p) 39 (P_slices_ContainsFunc_api_Column_api_Column Sp.slices_ContainsFunc_api_Column_api_Column F) := by
  intro a s γ K q h
  unfold P_slices_ContainsFunc_api_Column_api_Column at h
  split at h
  · exact body_ok (tab_call (tab_nil _) (E_slices_IndexFunc_api_Column_api_Column p (ent_none _ _))) rfl ((e_slices_ContainsFunc_api_Column_api_Column p _ _ _ _).trans h)
  · exact hF _ _ _ _ _ h
abbrev Ty_value_Check : Type 1 := Int → Int → ByteArray → (γ : Type) → (Int → Option γ) → Option γ
def P_value_Check (X : Ty_value_Check) (F : Ent3) : Ent3 := fun a s γ K => match a, s with
  | [agg [(int i64 v_v0, Own.none), (int i64 v_v1, Own.none), (str v_v2, Own.none)]], [] => X v_v0 v_v1 v_v2 γ (fun r0 => K ([(dat (int i64 r0), Own.none)], []))
  | a, s => F a s γ K
def T_value_Check : CallK := noneK
def L_value_Check : LoopK := noneL
def Sp.B_value_Check (v_v0 v_v1 : Int) (v_v2 : ByteArray) (γ : Type) (K : Int → Option γ) : Option γ := bif decide (v_v0 = 0) then bif !(decide (v_v0 = 0) && (decide (v_v1 = 0) && (decide (v_v2 = bs []) && true))) then K 10 else K 0 else bif decide (v_v0 = 1) then bif decide (Int.fdiv v_v1 2 = 0) then bif !decide (v_v2 = bs []) then K 10 else K 0 else K 10 else bif decide (v_v0 = 2) then bif decide (-9007199254740991 ≤ v_v1) then bif decide (v_v1 ≤ 9007199254740991) then bif !decide (v_v2 = bs []) then K 10 else K 0 else K 10 else K 10 else bif decide (v_v0 = 3) then bif decide (v_v1 = 0) then bif !decide (Int.ofNat (ByteArray.size v_v2) ≤ 64) then K 10 else K 0 else K 10 else K 10
theorem e_value_Check (p : Par) (v_v0 v_v1 v_v2) (γ : Type) (K : List Ent × Sig → Option γ) : evFK (cfg p) (T_value_Check) (L_value_Check) 77 [agg [(int i64 v_v0, Own.none), (int i64 v_v1, Own.none), (str v_v2, Own.none)]] [] γ K = Sp.B_value_Check v_v0 v_v1 v_v2 γ (fun r0 => K ([(dat (int i64 r0), Own.none)], [])) := by kernel_rfl
def Sp.value_Check : Ty_value_Check := Sp.B_value_Check 
theorem E_value_Check (p : Par) {F : Ent3} (hF : EntOk (cfg p) 77 F) : EntOk (cfg p) 77 (P_value_Check Sp.value_Check F) := by
  intro a s γ K q h
  unfold P_value_Check at h
  split at h
  · exact body_ok (tab_nil _) rfl ((e_value_Check p _ _ _ _ _).trans h)
  · exact hF _ _ _ _ _ h
abbrev Ty_row_Check_1 : Type 1 := Int → Int → ByteArray → (γ : Type) → (Bool → Option γ) → Option γ
def P_row_Check_1 (X : Ty_row_Check_1) (F : Ent3) : Ent3 := fun a s γ K => match a, s with
  | [agg [(int i64 v_v0, Own.none), (int i64 v_v1, Own.none), (str v_v2, Own.none)]], [] => X v_v0 v_v1 v_v2 γ (fun r0 => K ([(dat (Dat.bool r0), Own.none)], []))
  | a, s => F a s γ K
def T_row_Check_1 (x_value_Check : Ty_value_Check) : CallK := (addK noneK 77 (P_value_Check x_value_Check none3))
def L_row_Check_1 (x_value_Check : Ty_value_Check) : LoopK := noneL
def Sp.B_row_Check_1 (x_value_Check : Ty_value_Check) (v_v0 v_v1 : Int) (v_v2 : ByteArray) (γ : Type) (K : Bool → Option γ) : Option γ := x_value_Check v_v0 v_v1 v_v2 γ fun z5 => K !decide (z5 = 0)
theorem e_row_Check_1 (p : Par) (x_value_Check v_v0 v_v1 v_v2) (γ : Type) (K : List Ent × Sig → Option γ) : evFK (cfg p) (T_row_Check_1 x_value_Check) (L_row_Check_1 x_value_Check) 76 [agg [(int i64 v_v0, Own.none), (int i64 v_v1, Own.none), (str v_v2, Own.none)]] [] γ K = Sp.B_row_Check_1 x_value_Check v_v0 v_v1 v_v2 γ (fun r0 => K ([(dat (Dat.bool r0), Own.none)], [])) := by kernel_rfl
def Sp.row_Check_1 : Ty_row_Check_1 := Sp.B_row_Check_1 Sp.value_Check
theorem E_row_Check_1 (p : Par) {F : Ent3} (hF : EntOk (cfg p) 76 F) : EntOk (cfg p) 76 (P_row_Check_1 Sp.row_Check_1 F) := by
  intro a s γ K q h
  unfold P_row_Check_1 at h
  split at h
  · exact body_ok (tab_call (tab_nil _) (E_value_Check p (ent_none _ _))) rfl ((e_row_Check_1 p _ _ _ _ _ _).trans h)
  · exact hF _ _ _ _ _ h
abbrev Ty_slices_IndexFunc_api_Value_api_Value_95_L0 : Type 1 := List (List Dat) → Int → Int → Int → (γ : Type) → (Ex → Int → Int → Option γ) → Option γ
def P_slices_IndexFunc_api_Value_api_Value_95_L0 (X : Ty_slices_IndexFunc_api_Value_api_Value_95_L0) (F : Loop3) : Loop3 := fun a s γ K => match a, s with
  | [dat (sl v_s), AVal.clo (Fn.func 76) [] [], dat (int i64 v_)], ([dat (int i64 v__1), dat (int i64 v__2)], []) => X v_s v_ v__1 v__2 γ (fun e x0 x1 => K (e, ([dat (int i64 x0), dat (int i64 x1)], [])))
  | a, s => F a s γ K
def T_slices_IndexFunc_api_Value_api_Value_95_L0 (x_row_Check_1 : Ty_row_Check_1) : CallK := (addK noneK 76 (P_row_Check_1 x_row_Check_1 none3))
def L_slices_IndexFunc_api_Value_api_Value_95_L0 (x_row_Check_1 : Ty_row_Check_1) : LoopK := noneL
def Sp.B_slices_IndexFunc_api_Value_api_Value_95_L0 (x_slices_IndexFunc_api_Value_api_Value_95_L0 : Ty_slices_IndexFunc_api_Value_api_Value_95_L0) (x_row_Check_1 : Ty_row_Check_1) (v_s : List (List Dat)) (v_ v__1 v__2 : Int) (γ : Type) (K : Ex → Int → Int → Option γ) : Option γ := bif decide (v__2 < v_) then elemAt v_s v__2 fun z6 => bif List.length z6 == 3 then cellAt z6 0 fun z7 => Aev.asInt i64 z7 fun z8 => cellAt z6 1 fun z9 => Aev.asInt i64 z9 fun z10 => cellAt z6 2 fun z11 => asStr z11 fun z12 => x_row_Check_1 z8 z10 z12 γ fun z13 => bif z13 then K Ex.ret v__2 v__2 else x_slices_IndexFunc_api_Value_api_Value_95_L0 v_s v_ v__1 (IntKind.wrap i64 (v__2 + 1)) γ K else none else K (Ex.exit 0) v__1 v__2
theorem e_slices_IndexFunc_api_Value_api_Value_95_L0 (p : Par) (x_slices_IndexFunc_api_Value_api_Value_95_L0 : Ty_slices_IndexFunc_api_Value_api_Value_95_L0) (x_row_Check_1 v_s v_ v__1 v__2) (γ : Type) (K : Ex × Vars → Option γ) : roundK (cfg p) (T_slices_IndexFunc_api_Value_api_Value_95_L0 x_row_Check_1) (L_slices_IndexFunc_api_Value_api_Value_95_L0 x_row_Check_1) 95 0 [dat (sl v_s), AVal.clo (Fn.func 76) [] [], dat (int i64 v_)] ([dat (int i64 v__1), dat (int i64 v__2)], []) γ (contL (fun v => P_slices_IndexFunc_api_Value_api_Value_95_L0 x_slices_IndexFunc_api_Value_api_Value_95_L0 noneL3 [dat (sl v_s), AVal.clo (Fn.func 76) [] [], dat (int i64 v_)] v γ K) K) = Sp.B_slices_IndexFunc_api_Value_api_Value_95_L0 x_slices_IndexFunc_api_Value_api_Value_95_L0 x_row_Check_1 v_s v_ v__1 v__2 γ (fun e x0 x1 => K (e, ([dat (int i64 x0), dat (int i64 x1)], []))) := by kernel_rfl
def Sp.slices_IndexFunc_api_Value_api_Value_95_L0 : Nat → Ty_slices_IndexFunc_api_Value_api_Value_95_L0
  | 0 => fun _ _ _ _ _ _ => none
  | n + 1 => Sp.B_slices_IndexFunc_api_Value_api_Value_95_L0 (Sp.slices_IndexFunc_api_Value_api_Value_95_L0 n) Sp.row_Check_1
theorem E0_slices_IndexFunc_api_Value_api_Value_95_L0 (p : Par)   : ∀ n, EntOkL (cfg p) 95 0 (P_slices_IndexFunc_api_Value_api_Value_95_L0 (Sp.slices_IndexFunc_api_Value_api_Value_95_L0 n) noneL3) := entL_rounds (tab_call (tab_nil _) (E_row_Check_1 p (ent_none _ _))) (by kernel_rfl) (fun c v γ K => by unfold P_slices_IndexFunc_api_Value_api_Value_95_L0; split <;> rfl) fun n c v γ K q h => by
  unfold P_slices_IndexFunc_api_Value_api_Value_95_L0 at h
  split at h
  · exact (e_slices_IndexFunc_api_Value_api_Value_95_L0 p _ _ _ _ _ _ _ _).trans h
  · cases h
theorem E_slices_IndexFunc_api_Value_api_Value_95_L0 (p : Par)   (n : Nat) {F : Loop3} (hF : EntOkL (cfg p) 95 0 F) : EntOkL (cfg p) 95 0 (P_slices_IndexFunc_api_Value_api_Value_95_L0 (Sp.slices_IndexFunc_api_Value_api_Value_95_L0 n) F) := by
  intro c v γ K q h
  unfold P_slices_IndexFunc_api_Value_api_Value_95_L0 at h
  split at h
  · exact E0_slices_IndexFunc_api_Value_api_Value_95_L0 p n _ _ _ _ _ h
  · exact hF _ _ _ _ _ h
abbrev Ty_slices_IndexFunc_api_Value_api_Value_95 : Type 1 := List (List Dat) → (γ : Type) → (Int → Option γ) → Option γ
def P_slices_IndexFunc_api_Value_api_Value_95 (X : Ty_slices_IndexFunc_api_Value_api_Value_95) (F : Ent3) : Ent3 := fun a s γ K => match a, s with
  | [dat (sl v_s), AVal.clo (Fn.func 76) [] []], [] => X v_s γ (fun r0 => K ([(dat (int i64 r0), Own.none)], []))
  | a, s => F a s γ K
def T_slices_IndexFunc_api_Value_api_Value_95 (x_slices_IndexFunc_api_Value_api_Value_95_L0 : Ty_slices_IndexFunc_api_Value_api_Value_95_L0) : CallK := noneK
def L_slices_IndexFunc_api_Value_api_Value_95 (x_slices_IndexFunc_api_Value_api_Value_95_L0 : Ty_slices_IndexFunc_api_Value_api_Value_95_L0) : LoopK := (addL noneL 95 0 (P_slices_IndexFunc_api_Value_api_Value_95_L0 x_slices_IndexFunc_api_Value_api_Value_95_L0 noneL3))
def Sp.B_slices_IndexFunc_api_Value_api_Value_95 (x_slices_IndexFunc_api_Value_api_Value_95_L0 : Ty_slices_IndexFunc_api_Value_api_Value_95_L0) (v_s : List (List Dat)) (γ : Type) (K : Int → Option γ) : Option γ := x_slices_IndexFunc_api_Value_api_Value_95_L0 v_s (Int.ofNat (List.length v_s)) 0 0 γ fun z3 z4 z5 => bif Ex.isExit z3 0 then K (-1) else bif Ex.isRet z3 then K z4 else none
theorem e_slices_IndexFunc_api_Value_api_Value_95 (p : Par) (x_slices_IndexFunc_api_Value_api_Value_95_L0 v_s) (γ : Type) (K : List Ent × Sig → Option γ) : evFK (cfg p) (T_slices_IndexFunc_api_Value_api_Value_95 x_slices_IndexFunc_api_Value_api_Value_95_L0) (L_slices_IndexFunc_api_Value_api_Value_95 x_slices_IndexFunc_api_Value_api_Value_95_L0) 95 [dat (sl v_s), AVal.clo (Fn.func 76) [] []] [] γ K = Sp.B_slices_IndexFunc_api_Value_api_Value_95 x_slices_IndexFunc_api_Value_api_Value_95_L0 v_s γ (fun r0 => K ([(dat (int i64 r0), Own.none)], [])) := by kernel_rfl
def Sp.slices_IndexFunc_api_Value_api_Value_95 : Ty_slices_IndexFunc_api_Value_api_Value_95 := Sp.B_slices_IndexFunc_api_Value_api_Value_95 (Sp.slices_IndexFunc_api_Value_api_Value_95_L0 fuel)
theorem E_slices_IndexFunc_api_Value_api_Value_95 (p : Par) {F : Ent3} (hF : EntOk (cfg p) 95 F) : EntOk (cfg p) 95 (P_slices_IndexFunc_api_Value_api_Value_95 Sp.slices_IndexFunc_api_Value_api_Value_95 F) := by
  intro a s γ K q h
  unfold P_slices_IndexFunc_api_Value_api_Value_95 at h
  split at h
  · exact body_ok (tab_loop (tab_nil _) (E_slices_IndexFunc_api_Value_api_Value_95_L0 p fuel (entL_none _ _ _))) rfl ((e_slices_IndexFunc_api_Value_api_Value_95 p _ _ _ _).trans h)
  · exact hF _ _ _ _ _ h
abbrev Ty_slices_ContainsFunc_api_Value_api_Value_78 : Type 1 := List (List Dat) → (γ : Type) → (Bool → Option γ) → Option γ
def P_slices_ContainsFunc_api_Value_api_Value_78 (X : Ty_slices_ContainsFunc_api_Value_api_Value_78) (F : Ent3) : Ent3 := fun a s γ K => match a, s with
  | [dat (sl v_s), AVal.clo (Fn.func 76) [] []], [] => X v_s γ (fun r0 => K ([(dat (Dat.bool r0), Own.none)], []))
  | a, s => F a s γ K
def T_slices_ContainsFunc_api_Value_api_Value_78 (x_slices_IndexFunc_api_Value_api_Value_95 : Ty_slices_IndexFunc_api_Value_api_Value_95) : CallK := (addK noneK 95 (P_slices_IndexFunc_api_Value_api_Value_95 x_slices_IndexFunc_api_Value_api_Value_95 none3))
def L_slices_ContainsFunc_api_Value_api_Value_78 (x_slices_IndexFunc_api_Value_api_Value_95 : Ty_slices_IndexFunc_api_Value_api_Value_95) : LoopK := noneL
def Sp.B_slices_ContainsFunc_api_Value_api_Value_78 (x_slices_IndexFunc_api_Value_api_Value_95 : Ty_slices_IndexFunc_api_Value_api_Value_95) (v_s : List (List Dat)) (γ : Type) (K : Bool → Option γ) : Option γ := x_slices_IndexFunc_api_Value_api_Value_95 v_s γ fun z3 => K (decide (0 ≤ z3))
theorem e_slices_ContainsFunc_api_Value_api_Value_78 (p : Par) (x_slices_IndexFunc_api_Value_api_Value_95 v_s) (γ : Type) (K : List Ent × Sig → Option γ) : evFK (cfg p) (T_slices_ContainsFunc_api_Value_api_Value_78 x_slices_IndexFunc_api_Value_api_Value_95) (L_slices_ContainsFunc_api_Value_api_Value_78 x_slices_IndexFunc_api_Value_api_Value_95) 78 [dat (sl v_s), AVal.clo (Fn.func 76) [] []] [] γ K = Sp.B_slices_ContainsFunc_api_Value_api_Value_78 x_slices_IndexFunc_api_Value_api_Value_95 v_s γ (fun r0 => K ([(dat (Dat.bool r0), Own.none)], [])) := by kernel_rfl
def Sp.slices_ContainsFunc_api_Value_api_Value_78 : Ty_slices_ContainsFunc_api_Value_api_Value_78 := Sp.B_slices_ContainsFunc_api_Value_api_Value_78 Sp.slices_IndexFunc_api_Value_api_Value_95
theorem E_slices_ContainsFunc_api_Value_api_Value_78 (p : Par) {F : Ent3} (hF : EntOk (cfg p) 78 F) : EntOk (cfg p) 78 (P_slices_ContainsFunc_api_Value_api_Value_78 Sp.slices_ContainsFunc_api_Value_api_Value_78 F) := by
  intro a s γ K q h
  unfold P_slices_ContainsFunc_api_Value_api_Value_78 at h
  split at h
  · exact body_ok (tab_call (tab_nil _) (E_slices_IndexFunc_api_Value_api_Value_95 p (ent_none _ _))) rfl ((e_slices_ContainsFunc_api_Value_api_Value_78 p _ _ _ _).trans h)
  · exact hF _ _ _ _ _ h
abbrev Ty_row_Check : Type 1 := List (List Dat) → (γ : Type) → (Int → Option γ) → Option γ
def P_row_Check (X : Ty_row_Check) (F : Ent3) : Ent3 := fun a s γ K => match a, s with
  | [dat (sl v_r)], [] => X v_r γ (fun r0 => K ([(dat (int i64 r0), Own.none)], []))
  | a, s => F a s γ K
def T_row_Check (x_slices_ContainsFunc_api_Value_api_Value_78 : Ty_slices_ContainsFunc_api_Value_api_Value_78) : CallK := (addK noneK 78 (P_slices_ContainsFunc_api_Value_api_Value_78 x_slices_ContainsFunc_api_Value_api_Value_78 none3))
def L_row_Check (x_slices_ContainsFunc_api_Value_api_Value_78 : Ty_slices_ContainsFunc_api_Value_api_Value_78) : LoopK := noneL
def Sp.B_row_Check (x_slices_ContainsFunc_api_Value_api_Value_78 : Ty_slices_ContainsFunc_api_Value_api_Value_78) (v_r : List (List Dat)) (γ : Type) (K : Int → Option γ) : Option γ := bif decide (32 < Int.ofNat (List.length v_r)) then K 20 else x_slices_ContainsFunc_api_Value_api_Value_78 v_r γ fun z3 => bif z3 then K 20 else K 0
theorem e_row_Check (p : Par) (x_slices_ContainsFunc_api_Value_api_Value_78 v_r) (γ : Type) (K : List Ent × Sig → Option γ) : evFK (cfg p) (T_row_Check x_slices_ContainsFunc_api_Value_api_Value_78) (L_row_Check x_slices_ContainsFunc_api_Value_api_Value_78) 51 [dat (sl v_r)] [] γ K = Sp.B_row_Check x_slices_ContainsFunc_api_Value_api_Value_78 v_r γ (fun r0 => K ([(dat (int i64 r0), Own.none)], [])) := by kernel_rfl
def Sp.row_Check : Ty_row_Check := Sp.B_row_Check Sp.slices_ContainsFunc_api_Value_api_Value_78
theorem E_row_Check (p : Par) {F : Ent3} (hF : EntOk (cfg p) 51 F) : EntOk (cfg p) 51 (P_row_Check Sp.row_Check F) := by
  intro a s γ K q h
  unfold P_row_Check at h
  split at h
  · exact body_ok (tab_call (tab_nil _) (E_slices_ContainsFunc_api_Value_api_Value_78 p (ent_none _ _))) rfl ((e_row_Check p _ _ _ _).trans h)
  · exact hF _ _ _ _ _ h
abbrev Ty_catalog_Fits_L0 : Type 1 := List (List Dat) → List (List Dat) → Int → Bool → Int → (γ : Type) → (Ex → Bool → Int → Option γ) → Option γ
def P_catalog_Fits_L0 (X : Ty_catalog_Fits_L0) (F : Loop3) : Loop3 := fun a s γ K => match a, s with
  | [dat (sl v_cols), dat (sl v_), dat (int i64 v__1)], ([dat (Dat.bool v__2), dat (int i64 v__3)], []) => X v_cols v_ v__1 v__2 v__3 γ (fun e x0 x1 => K (e, ([dat (Dat.bool x0), dat (int i64 x1)], [])))
  | a, s => F a s γ K
def T_catalog_Fits_L0 : CallK := noneK
def L_catalog_Fits_L0 : LoopK := noneL
def Sp.B_catalog_Fits_L0 (x_catalog_Fits_L0 : Ty_catalog_Fits_L0)  (v_cols v_ : List (List Dat)) (v__1 : Int) (v__2 : Bool) (v__3 : Int) (γ : Type) (K : Ex → Bool → Int → Option γ) : Option γ := bif decide (v__3 < v__1) then elemAt v_ v__3 fun z7 => bif List.length z7 == 3 then cellAt z7 0 fun z8 => Aev.asInt i64 z8 fun z9 => cellAt z7 1 fun z10 => Aev.asInt i64 z10 fun z11 => cellAt z7 2 fun z12 => asStr z12 fun z13 => bif !decide (z9 = 0) then elemAt v_cols v__3 fun z14 => bif List.length z14 == 3 then cellAt (List.drop 2 z14) 0 fun z15 => Aev.asInt i64 z15 fun z16 => bif !decide (z9 = z16) then K Ex.ret false v__3 else x_catalog_Fits_L0 v_cols v_ v__1 v__2 (IntKind.wrap i64 (v__3 + 1)) γ K else none else x_catalog_Fits_L0 v_cols v_ v__1 v__2 (IntKind.wrap i64 (v__3 + 1)) γ K else none else K (Ex.exit 0) v__2 v__3
theorem e_catalog_Fits_L0 (p : Par) (x_catalog_Fits_L0 : Ty_catalog_Fits_L0) (v_cols v_ v__1 v__2 v__3) (γ : Type) (K : Ex × Vars → Option γ) : roundK (cfg p) (T_catalog_Fits_L0) (L_catalog_Fits_L0) 22 0 [dat (sl v_cols), dat (sl v_), dat (int i64 v__1)] ([dat (Dat.bool v__2), dat (int i64 v__3)], []) γ (contL (fun v => P_catalog_Fits_L0 x_catalog_Fits_L0 noneL3 [dat (sl v_cols), dat (sl v_), dat (int i64 v__1)] v γ K) K) = Sp.B_catalog_Fits_L0 x_catalog_Fits_L0 v_cols v_ v__1 v__2 v__3 γ (fun e x0 x1 => K (e, ([dat (Dat.bool x0), dat (int i64 x1)], []))) := by kernel_rfl
def Sp.catalog_Fits_L0 : Nat → Ty_catalog_Fits_L0
  | 0 => fun _ _ _ _ _ _ _ => none
  | n + 1 => Sp.B_catalog_Fits_L0 (Sp.catalog_Fits_L0 n) 
theorem E0_catalog_Fits_L0 (p : Par)   : ∀ n, EntOkL (cfg p) 22 0 (P_catalog_Fits_L0 (Sp.catalog_Fits_L0 n) noneL3) := entL_rounds (tab_nil _) (by kernel_rfl) (fun c v γ K => by unfold P_catalog_Fits_L0; split <;> rfl) fun n c v γ K q h => by
  unfold P_catalog_Fits_L0 at h
  split at h
  · exact (e_catalog_Fits_L0 p _ _ _ _ _ _ _ _).trans h
  · cases h
theorem E_catalog_Fits_L0 (p : Par)   (n : Nat) {F : Loop3} (hF : EntOkL (cfg p) 22 0 F) : EntOkL (cfg p) 22 0 (P_catalog_Fits_L0 (Sp.catalog_Fits_L0 n) F) := by
  intro c v γ K q h
  unfold P_catalog_Fits_L0 at h
  split at h
  · exact E0_catalog_Fits_L0 p n _ _ _ _ _ h
  · exact hF _ _ _ _ _ h
abbrev Ty_catalog_Fits : Type 1 := List (List Dat) → List (List Dat) → (γ : Type) → (Bool → Option γ) → Option γ
def P_catalog_Fits (X : Ty_catalog_Fits) (F : Ent3) : Ent3 := fun a s γ K => match a, s with
  | [dat (sl v_cols), dat (sl v_r)], [] => X v_cols v_r γ (fun r0 => K ([(dat (Dat.bool r0), Own.none)], []))
  | a, s => F a s γ K
def T_catalog_Fits (x_row_Check : Ty_row_Check) (x_catalog_Fits_L0 : Ty_catalog_Fits_L0) : CallK := (addK noneK 51 (P_row_Check x_row_Check none3))
def L_catalog_Fits (x_row_Check : Ty_row_Check) (x_catalog_Fits_L0 : Ty_catalog_Fits_L0) : LoopK := (addL noneL 22 0 (P_catalog_Fits_L0 x_catalog_Fits_L0 noneL3))
def Sp.B_catalog_Fits (x_row_Check : Ty_row_Check) (x_catalog_Fits_L0 : Ty_catalog_Fits_L0) (v_cols v_r : List (List Dat)) (γ : Type) (K : Bool → Option γ) : Option γ := bif !decide (Int.ofNat (List.length v_r) = Int.ofNat (List.length v_cols)) then K false else x_row_Check v_r γ fun z4 => bif !decide (z4 = 0) then K false else x_catalog_Fits_L0 v_cols v_r (Int.ofNat (List.length v_r)) false 0 γ fun z5 z6 z7 => bif Ex.isExit z5 0 then K true else bif Ex.isRet z5 then K z6 else none
theorem e_catalog_Fits (p : Par) (x_row_Check x_catalog_Fits_L0 v_cols v_r) (γ : Type) (K : List Ent × Sig → Option γ) : evFK (cfg p) (T_catalog_Fits x_row_Check x_catalog_Fits_L0) (L_catalog_Fits x_row_Check x_catalog_Fits_L0) 22 [dat (sl v_cols), dat (sl v_r)] [] γ K = Sp.B_catalog_Fits x_row_Check x_catalog_Fits_L0 v_cols v_r γ (fun r0 => K ([(dat (Dat.bool r0), Own.none)], [])) := by kernel_rfl
def Sp.catalog_Fits : Ty_catalog_Fits := Sp.B_catalog_Fits Sp.row_Check (Sp.catalog_Fits_L0 fuel)
theorem E_catalog_Fits (p : Par) {F : Ent3} (hF : EntOk (cfg p) 22 F) : EntOk (cfg p) 22 (P_catalog_Fits Sp.catalog_Fits F) := by
  intro a s γ K q h
  unfold P_catalog_Fits at h
  split at h
  · exact body_ok (tab_loop (tab_call (tab_nil _) (E_row_Check p (ent_none _ _))) (E_catalog_Fits_L0 p fuel (entL_none _ _ _))) rfl ((e_catalog_Fits p _ _ _ _ _ _).trans h)
  · exact hF _ _ _ _ _ h
abbrev Ty_row_size : Type 1 := Int → Int → ByteArray → (γ : Type) → (Int → Option γ) → Option γ
def P_row_size (X : Ty_row_size) (F : Ent3) : Ent3 := fun a s γ K => match a, s with
  | [agg [(int i64 v_v0, Own.none), (int i64 v_v1, Own.none), (str v_v2, Own.none)]], [] => X v_v0 v_v1 v_v2 γ (fun r0 => K ([(dat (int i64 r0), Own.none)], []))
  | a, s => F a s γ K
def T_row_size : CallK := noneK
def L_row_size : LoopK := noneL
def Sp.B_row_size (v_v0 v_v1 : Int) (v_v2 : ByteArray) (γ : Type) (K : Int → Option γ) : Option γ := bif decide (v_v0 = 1) then K 2 else bif decide (v_v0 = 2) then K 8 else bif decide (v_v0 = 3) then K (IntKind.wrap i64 (2 + Int.ofNat (ByteArray.size v_v2))) else K 1
theorem e_row_size (p : Par) (v_v0 v_v1 v_v2) (γ : Type) (K : List Ent × Sig → Option γ) : evFK (cfg p) (T_row_size) (L_row_size) 62 [agg [(int i64 v_v0, Own.none), (int i64 v_v1, Own.none), (str v_v2, Own.none)]] [] γ K = Sp.B_row_size v_v0 v_v1 v_v2 γ (fun r0 => K ([(dat (int i64 r0), Own.none)], [])) := by kernel_rfl
def Sp.row_size : Ty_row_size := Sp.B_row_size 
theorem E_row_size (p : Par) {F : Ent3} (hF : EntOk (cfg p) 62 F) : EntOk (cfg p) 62 (P_row_size Sp.row_size F) := by
  intro a s γ K q h
  unfold P_row_size at h
  split at h
  · exact body_ok (tab_nil _) rfl ((e_row_size p _ _ _ _ _).trans h)
  · exact hF _ _ _ _ _ h
abbrev Ty_row_Size_L0 : Type 1 := List (List Dat) → Int → Int → Int → (γ : Type) → (Ex → Int → Int → Option γ) → Option γ
def P_row_Size_L0 (X : Ty_row_Size_L0) (F : Loop3) : Loop3 := fun a s γ K => match a, s with
  | [dat (sl v_), dat (int i64 v__1)], ([dat (int i64 v_n), dat (int i64 v__2)], []) => X v_ v__1 v_n v__2 γ (fun e x0 x1 => K (e, ([dat (int i64 x0), dat (int i64 x1)], [])))
  | a, s => F a s γ K
def T_row_Size_L0 (x_row_size : Ty_row_size) : CallK := (addK noneK 62 (P_row_size x_row_size none3))
def L_row_Size_L0 (x_row_size : Ty_row_size) : LoopK := noneL
def Sp.B_row_Size_L0 (x_row_Size_L0 : Ty_row_Size_L0) (x_row_size : Ty_row_size) (v_ : List (List Dat)) (v__1 v_n v__2 : Int) (γ : Type) (K : Ex → Int → Int → Option γ) : Option γ := bif decide (v__2 < v__1) then elemAt v_ v__2 fun z6 => bif List.length z6 == 3 then cellAt z6 0 fun z7 => Aev.asInt i64 z7 fun z8 => cellAt z6 1 fun z9 => Aev.asInt i64 z9 fun z10 => cellAt z6 2 fun z11 => asStr z11 fun z12 => x_row_size z8 z10 z12 γ fun z13 => x_row_Size_L0 v_ v__1 (IntKind.wrap i64 (v_n + z13)) (IntKind.wrap i64 (v__2 + 1)) γ K else none else K (Ex.exit 0) v_n v__2
theorem e_row_Size_L0 (p : Par) (x_row_Size_L0 : Ty_row_Size_L0) (x_row_size v_ v__1 v_n v__2) (γ : Type) (K : Ex × Vars → Option γ) : roundK (cfg p) (T_row_Size_L0 x_row_size) (L_row_Size_L0 x_row_size) 37 0 [dat (sl v_), dat (int i64 v__1)] ([dat (int i64 v_n), dat (int i64 v__2)], []) γ (contL (fun v => P_row_Size_L0 x_row_Size_L0 noneL3 [dat (sl v_), dat (int i64 v__1)] v γ K) K) = Sp.B_row_Size_L0 x_row_Size_L0 x_row_size v_ v__1 v_n v__2 γ (fun e x0 x1 => K (e, ([dat (int i64 x0), dat (int i64 x1)], []))) := by kernel_rfl
def Sp.row_Size_L0 : Nat → Ty_row_Size_L0
  | 0 => fun _ _ _ _ _ _ => none
  | n + 1 => Sp.B_row_Size_L0 (Sp.row_Size_L0 n) Sp.row_size
theorem E0_row_Size_L0 (p : Par)   : ∀ n, EntOkL (cfg p) 37 0 (P_row_Size_L0 (Sp.row_Size_L0 n) noneL3) := entL_rounds (tab_call (tab_nil _) (E_row_size p (ent_none _ _))) (by kernel_rfl) (fun c v γ K => by unfold P_row_Size_L0; split <;> rfl) fun n c v γ K q h => by
  unfold P_row_Size_L0 at h
  split at h
  · exact (e_row_Size_L0 p _ _ _ _ _ _ _ _).trans h
  · cases h
theorem E_row_Size_L0 (p : Par)   (n : Nat) {F : Loop3} (hF : EntOkL (cfg p) 37 0 F) : EntOkL (cfg p) 37 0 (P_row_Size_L0 (Sp.row_Size_L0 n) F) := by
  intro c v γ K q h
  unfold P_row_Size_L0 at h
  split at h
  · exact E0_row_Size_L0 p n _ _ _ _ _ h
  · exact hF _ _ _ _ _ h
abbrev Ty_row_Size : Type 1 := List (List Dat) → (γ : Type) → (Int → Option γ) → Option γ
def P_row_Size (X : Ty_row_Size) (F : Ent3) : Ent3 := fun a s γ K => match a, s with
  | [dat (sl v_r)], [] => X v_r γ (fun r0 => K ([(dat (int i64 r0), Own.none)], []))
  | a, s => F a s γ K
def T_row_Size (x_row_Check : Ty_row_Check) (x_row_Size_L0 : Ty_row_Size_L0) : CallK := (addK noneK 51 (P_row_Check x_row_Check none3))
def L_row_Size (x_row_Check : Ty_row_Check) (x_row_Size_L0 : Ty_row_Size_L0) : LoopK := (addL noneL 37 0 (P_row_Size_L0 x_row_Size_L0 noneL3))
def Sp.B_row_Size (x_row_Check : Ty_row_Check) (x_row_Size_L0 : Ty_row_Size_L0) (v_r : List (List Dat)) (γ : Type) (K : Int → Option γ) : Option γ := x_row_Check v_r γ fun z3 => bif !decide (z3 = 0) then K 0 else x_row_Size_L0 v_r (Int.ofNat (List.length v_r)) 1 0 γ fun z4 z5 z6 => bif Ex.isExit z4 0 then K z5 else bif Ex.isRet z4 then none else none
theorem e_row_Size (p : Par) (x_row_Check x_row_Size_L0 v_r) (γ : Type) (K : List Ent × Sig → Option γ) : evFK (cfg p) (T_row_Size x_row_Check x_row_Size_L0) (L_row_Size x_row_Check x_row_Size_L0) 37 [dat (sl v_r)] [] γ K = Sp.B_row_Size x_row_Check x_row_Size_L0 v_r γ (fun r0 => K ([(dat (int i64 r0), Own.none)], [])) := by kernel_rfl
def Sp.row_Size : Ty_row_Size := Sp.B_row_Size Sp.row_Check (Sp.row_Size_L0 fuel)
theorem E_row_Size (p : Par) {F : Ent3} (hF : EntOk (cfg p) 37 F) : EntOk (cfg p) 37 (P_row_Size Sp.row_Size F) := by
  intro a s γ K q h
  unfold P_row_Size at h
  split at h
  · exact body_ok (tab_loop (tab_call (tab_nil _) (E_row_Check p (ent_none _ _))) (E_row_Size_L0 p fuel (entL_none _ _ _))) rfl ((e_row_Size p _ _ _ _ _).trans h)
  · exact hF _ _ _ _ _ h
abbrev Ty_catalog_Table_1 : Type 1 := List (List Dat) → ByteArray → List (List Dat) → List (List Dat) → (γ : Type) → (Bool → ByteArray → List (List Dat) → List (List Dat) → Option γ) → Option γ
def P_catalog_Table_1 (X : Ty_catalog_Table_1) (F : Ent3) : Ent3 := fun a s γ K => match a, s with
  | [dat (sl v_r), AVal.ref 0 0], [Box.cells [dat (str b0), dat (sl b1), dat (sl b2)]] => X v_r b0 b1 b2 γ (fun r0 r1 r2 r3 => K ([(dat (Dat.bool r0), Own.none)], [Box.cells [dat (str r1), dat (sl r2), dat (sl r3)]]))
  | a, s => F a s γ K
def T_catalog_Table_1 (x_catalog_Fits : Ty_catalog_Fits) (x_row_Size : Ty_row_Size) : CallK := (addK (addK noneK 22 (P_catalog_Fits x_catalog_Fits none3)) 37 (P_row_Size x_row_Size none3))
def L_catalog_Table_1 (x_catalog_Fits : Ty_catalog_Fits) (x_row_Size : Ty_row_Size) : LoopK := noneL
def Sp.B_catalog_Table_1 (x_catalog_Fits : Ty_catalog_Fits) (x_row_Size : Ty_row_Size) (v_r : List (List Dat)) (b0 : ByteArray) (b1 b2 : List (List Dat)) (γ : Type) (K : Bool → ByteArray → List (List Dat) → List (List Dat) → Option γ) : Option γ := x_catalog_Fits b1 v_r γ fun z6 => bif !z6 then K true b0 b1 b2 else x_row_Size v_r γ fun z7 => K (decide (253 < z7)) b0 b1 b2
theorem e_catalog_Table_1 (p : Par) (x_catalog_Fits x_row_Size v_r b0 b1 b2) (γ : Type) (K : List Ent × Sig → Option γ) : evFK (cfg p) (T_catalog_Table_1 x_catalog_Fits x_row_Size) (L_catalog_Table_1 x_catalog_Fits x_row_Size) 36 [dat (sl v_r), AVal.ref 0 0] [Box.cells [dat (str b0), dat (sl b1), dat (sl b2)]] γ K = Sp.B_catalog_Table_1 x_catalog_Fits x_row_Size v_r b0 b1 b2 γ (fun r0 r1 r2 r3 => K ([(dat (Dat.bool r0), Own.none)], [Box.cells [dat (str r1), dat (sl r2), dat (sl r3)]])) := by kernel_rfl
def Sp.catalog_Table_1 : Ty_catalog_Table_1 := Sp.B_catalog_Table_1 Sp.catalog_Fits Sp.row_Size
theorem E_catalog_Table_1 (p : Par) {F : Ent3} (hF : EntOk (cfg p) 36 F) : EntOk (cfg p) 36 (P_catalog_Table_1 Sp.catalog_Table_1 F) := by
  intro a s γ K q h
  unfold P_catalog_Table_1 at h
  split at h
  · exact body_ok (tab_call (tab_call (tab_nil _) (E_catalog_Fits p (ent_none _ _))) (E_row_Size p (ent_none _ _))) rfl ((e_catalog_Table_1 p _ _ _ _ _ _ _ _).trans h)
  · exact hF _ _ _ _ _ h
abbrev Ty_slices_IndexFunc_api_Value_api_Value_L0 : Type 1 := List (List Dat) → Int → Int → Int → ByteArray → List (List Dat) → List (List Dat) → (γ : Type) → (Ex → Int → Int → ByteArray → List (List Dat) → List (List Dat) → Option γ) → Option γ
def P_slices_IndexFunc_api_Value_api_Value_L0 (X : Ty_slices_IndexFunc_api_Value_api_Value_L0) (F : Loop3) : Loop3 := fun a s γ K => match a, s with
  | [dat (sl v_s), AVal.clo (Fn.func 36) [] [AVal.ref 0 0], dat (int i64 v_)], ([dat (int i64 v__1), dat (int i64 v__2)], [Box.cells [dat (str b0), dat (sl b1), dat (sl b2)]]) => X v_s v_ v__1 v__2 b0 b1 b2 γ (fun e x0 x1 x2 x3 x4 => K (e, ([dat (int i64 x0), dat (int i64 x1)], [Box.cells [dat (str x2), dat (sl x3), dat (sl x4)]])))
  | a, s => F a s γ K
def T_slices_IndexFunc_api_Value_api_Value_L0 (x_catalog_Table_1 : Ty_catalog_Table_1) : CallK := (addK noneK 36 (P_catalog_Table_1 x_catalog_Table_1 none3))
def L_slices_IndexFunc_api_Value_api_Value_L0 (x_catalog_Table_1 : Ty_catalog_Table_1) : LoopK := noneL
def Sp.B_slices_IndexFunc_api_Value_api_Value_L0 (x_slices_IndexFunc_api_Value_api_Value_L0 : Ty_slices_IndexFunc_api_Value_api_Value_L0) (x_catalog_Table_1 : Ty_catalog_Table_1) (v_s : List (List Dat)) (v_ v__1 v__2 : Int) (b0 : ByteArray) (b1 b2 : List (List Dat)) (γ : Type) (K : Ex → Int → Int → ByteArray → List (List Dat) → List (List Dat) → Option γ) : Option γ := bif decide (v__2 < v_) then elemAt v_s v__2 fun z9 => bif List.length z9 == 1 then cellAt z9 0 fun z10 => asSl z10 fun z11 => x_catalog_Table_1 z11 b0 b1 b2 γ fun z12 z13 z14 z15 => bif z12 then K Ex.ret v__2 v__2 z13 z14 z15 else x_slices_IndexFunc_api_Value_api_Value_L0 v_s v_ v__1 (IntKind.wrap i64 (v__2 + 1)) z13 z14 z15 γ K else none else K (Ex.exit 0) v__1 v__2 b0 b1 b2
theorem e_slices_IndexFunc_api_Value_api_Value_L0 (p : Par) (x_slices_IndexFunc_api_Value_api_Value_L0 : Ty_slices_IndexFunc_api_Value_api_Value_L0) (x_catalog_Table_1 v_s v_ v__1 v__2 b0 b1 b2) (γ : Type) (K : Ex × Vars → Option γ) : roundK (cfg p) (T_slices_IndexFunc_api_Value_api_Value_L0 x_catalog_Table_1) (L_slices_IndexFunc_api_Value_api_Value_L0 x_catalog_Table_1) 67 0 [dat (sl v_s), AVal.clo (Fn.func 36) [] [AVal.ref 0 0], dat (int i64 v_)] ([dat (int i64 v__1), dat (int i64 v__2)], [Box.cells [dat (str b0), dat (sl b1), dat (sl b2)]]) γ (contL (fun v => P_slices_IndexFunc_api_Value_api_Value_L0 x_slices_IndexFunc_api_Value_api_Value_L0 noneL3 [dat (sl v_s), AVal.clo (Fn.func 36) [] [AVal.ref 0 0], dat (int i64 v_)] v γ K) K) = Sp.B_slices_IndexFunc_api_Value_api_Value_L0 x_slices_IndexFunc_api_Value_api_Value_L0 x_catalog_Table_1 v_s v_ v__1 v__2 b0 b1 b2 γ (fun e x0 x1 x2 x3 x4 => K (e, ([dat (int i64 x0), dat (int i64 x1)], [Box.cells [dat (str x2), dat (sl x3), dat (sl x4)]]))) := by kernel_rfl
def Sp.slices_IndexFunc_api_Value_api_Value_L0 : Nat → Ty_slices_IndexFunc_api_Value_api_Value_L0
  | 0 => fun _ _ _ _ _ _ _ _ _ => none
  | n + 1 => Sp.B_slices_IndexFunc_api_Value_api_Value_L0 (Sp.slices_IndexFunc_api_Value_api_Value_L0 n) Sp.catalog_Table_1
theorem E0_slices_IndexFunc_api_Value_api_Value_L0 (p : Par)   : ∀ n, EntOkL (cfg p) 67 0 (P_slices_IndexFunc_api_Value_api_Value_L0 (Sp.slices_IndexFunc_api_Value_api_Value_L0 n) noneL3) := entL_rounds (tab_call (tab_nil _) (E_catalog_Table_1 p (ent_none _ _))) (by kernel_rfl) (fun c v γ K => by unfold P_slices_IndexFunc_api_Value_api_Value_L0; split <;> rfl) fun n c v γ K q h => by
  unfold P_slices_IndexFunc_api_Value_api_Value_L0 at h
  split at h
  · exact (e_slices_IndexFunc_api_Value_api_Value_L0 p _ _ _ _ _ _ _ _ _ _ _).trans h
  · cases h
theorem E_slices_IndexFunc_api_Value_api_Value_L0 (p : Par)   (n : Nat) {F : Loop3} (hF : EntOkL (cfg p) 67 0 F) : EntOkL (cfg p) 67 0 (P_slices_IndexFunc_api_Value_api_Value_L0 (Sp.slices_IndexFunc_api_Value_api_Value_L0 n) F) := by
  intro c v γ K q h
  unfold P_slices_IndexFunc_api_Value_api_Value_L0 at h
  split at h
  · exact E0_slices_IndexFunc_api_Value_api_Value_L0 p n _ _ _ _ _ h
  · exact hF _ _ _ _ _ h
abbrev Ty_slices_IndexFunc_api_Value_api_Value : Type 1 := List (List Dat) → ByteArray → List (List Dat) → List (List Dat) → (γ : Type) → (Int → ByteArray → List (List Dat) → List (List Dat) → Option γ) → Option γ
def P_slices_IndexFunc_api_Value_api_Value (X : Ty_slices_IndexFunc_api_Value_api_Value) (F : Ent3) : Ent3 := fun a s γ K => match a, s with
  | [dat (sl v_s), AVal.clo (Fn.func 36) [] [AVal.ref 0 0]], [Box.cells [dat (str b0), dat (sl b1), dat (sl b2)]] => X v_s b0 b1 b2 γ (fun r0 r1 r2 r3 => K ([(dat (int i64 r0), Own.none)], [Box.cells [dat (str r1), dat (sl r2), dat (sl r3)]]))
  | a, s => F a s γ K
def T_slices_IndexFunc_api_Value_api_Value (x_slices_IndexFunc_api_Value_api_Value_L0 : Ty_slices_IndexFunc_api_Value_api_Value_L0) : CallK := noneK
def L_slices_IndexFunc_api_Value_api_Value (x_slices_IndexFunc_api_Value_api_Value_L0 : Ty_slices_IndexFunc_api_Value_api_Value_L0) : LoopK := (addL noneL 67 0 (P_slices_IndexFunc_api_Value_api_Value_L0 x_slices_IndexFunc_api_Value_api_Value_L0 noneL3))
def Sp.B_slices_IndexFunc_api_Value_api_Value (x_slices_IndexFunc_api_Value_api_Value_L0 : Ty_slices_IndexFunc_api_Value_api_Value_L0) (v_s : List (List Dat)) (b0 : ByteArray) (b1 b2 : List (List Dat)) (γ : Type) (K : Int → ByteArray → List (List Dat) → List (List Dat) → Option γ) : Option γ := x_slices_IndexFunc_api_Value_api_Value_L0 v_s (Int.ofNat (List.length v_s)) 0 0 b0 b1 b2 γ fun z6 z7 z8 z9 z10 z11 => bif Ex.isExit z6 0 then K (-1) z9 z10 z11 else bif Ex.isRet z6 then K z7 z9 z10 z11 else none
theorem e_slices_IndexFunc_api_Value_api_Value (p : Par) (x_slices_IndexFunc_api_Value_api_Value_L0 v_s b0 b1 b2) (γ : Type) (K : List Ent × Sig → Option γ) : evFK (cfg p) (T_slices_IndexFunc_api_Value_api_Value x_slices_IndexFunc_api_Value_api_Value_L0) (L_slices_IndexFunc_api_Value_api_Value x_slices_IndexFunc_api_Value_api_Value_L0) 67 [dat (sl v_s), AVal.clo (Fn.func 36) [] [AVal.ref 0 0]] [Box.cells [dat (str b0), dat (sl b1), dat (sl b2)]] γ K = Sp.B_slices_IndexFunc_api_Value_api_Value x_slices_IndexFunc_api_Value_api_Value_L0 v_s b0 b1 b2 γ (fun r0 r1 r2 r3 => K ([(dat (int i64 r0), Own.none)], [Box.cells [dat (str r1), dat (sl r2), dat (sl r3)]])) := by kernel_rfl
def Sp.slices_IndexFunc_api_Value_api_Value : Ty_slices_IndexFunc_api_Value_api_Value := Sp.B_slices_IndexFunc_api_Value_api_Value (Sp.slices_IndexFunc_api_Value_api_Value_L0 fuel)
theorem E_slices_IndexFunc_api_Value_api_Value (p : Par) {F : Ent3} (hF : EntOk (cfg p) 67 F) : EntOk (cfg p) 67 (P_slices_IndexFunc_api_Value_api_Value Sp.slices_IndexFunc_api_Value_api_Value F) := by
  intro a s γ K q h
  unfold P_slices_IndexFunc_api_Value_api_Value at h
  split at h
  · exact body_ok (tab_loop (tab_nil _) (E_slices_IndexFunc_api_Value_api_Value_L0 p fuel (entL_none _ _ _))) rfl ((e_slices_IndexFunc_api_Value_api_Value p _ _ _ _ _ _ _).trans h)
  · exact hF _ _ _ _ _ h
abbrev Ty_slices_ContainsFunc_api_Value_api_Value : Type 1 := List (List Dat) → ByteArray → List (List Dat) → List (List Dat) → (γ : Type) → (Bool → ByteArray → List (List Dat) → List (List Dat) → Option γ) → Option γ
def P_slices_ContainsFunc_api_Value_api_Value (X : Ty_slices_ContainsFunc_api_Value_api_Value) (F : Ent3) : Ent3 := fun a s γ K => match a, s with
  | [dat (sl v_s), AVal.clo (Fn.func 36) [] [AVal.ref 0 0]], [Box.cells [dat (str b0), dat (sl b1), dat (sl b2)]] => X v_s b0 b1 b2 γ (fun r0 r1 r2 r3 => K ([(dat (Dat.bool r0), Own.none)], [Box.cells [dat (str r1), dat (sl r2), dat (sl r3)]]))
  | a, s => F a s γ K
def T_slices_ContainsFunc_api_Value_api_Value (x_slices_IndexFunc_api_Value_api_Value : Ty_slices_IndexFunc_api_Value_api_Value) : CallK := (addK noneK 67 (P_slices_IndexFunc_api_Value_api_Value x_slices_IndexFunc_api_Value_api_Value none3))
def L_slices_ContainsFunc_api_Value_api_Value (x_slices_IndexFunc_api_Value_api_Value : Ty_slices_IndexFunc_api_Value_api_Value) : LoopK := noneL
def Sp.B_slices_ContainsFunc_api_Value_api_Value (x_slices_IndexFunc_api_Value_api_Value : Ty_slices_IndexFunc_api_Value_api_Value) (v_s : List (List Dat)) (b0 : ByteArray) (b1 b2 : List (List Dat)) (γ : Type) (K : Bool → ByteArray → List (List Dat) → List (List Dat) → Option γ) : Option γ := x_slices_IndexFunc_api_Value_api_Value v_s b0 b1 b2 γ fun z6 z7 z8 z9 => K (decide (0 ≤ z6)) z7 z8 z9
theorem e_slices_ContainsFunc_api_Value_api_Value (p : Par) (x_slices_IndexFunc_api_Value_api_Value v_s b0 b1 b2) (γ : Type) (K : List Ent × Sig → Option γ) : evFK (cfg p) (T_slices_ContainsFunc_api_Value_api_Value x_slices_IndexFunc_api_Value_api_Value) (L_slices_ContainsFunc_api_Value_api_Value x_slices_IndexFunc_api_Value_api_Value) 43 [dat (sl v_s), AVal.clo (Fn.func 36) [] [AVal.ref 0 0]] [Box.cells [dat (str b0), dat (sl b1), dat (sl b2)]] γ K = Sp.B_slices_ContainsFunc_api_Value_api_Value x_slices_IndexFunc_api_Value_api_Value v_s b0 b1 b2 γ (fun r0 r1 r2 r3 => K ([(dat (Dat.bool r0), Own.none)], [Box.cells [dat (str r1), dat (sl r2), dat (sl r3)]])) := by kernel_rfl
def Sp.slices_ContainsFunc_api_Value_api_Value : Ty_slices_ContainsFunc_api_Value_api_Value := Sp.B_slices_ContainsFunc_api_Value_api_Value Sp.slices_IndexFunc_api_Value_api_Value
theorem E_slices_ContainsFunc_api_Value_api_Value (p : Par) {F : Ent3} (hF : EntOk (cfg p) 43 F) : EntOk (cfg p) 43 (P_slices_ContainsFunc_api_Value_api_Value Sp.slices_ContainsFunc_api_Value_api_Value F) := by
  intro a s γ K q h
  unfold P_slices_ContainsFunc_api_Value_api_Value at h
  split at h
  · exact body_ok (tab_call (tab_nil _) (E_slices_IndexFunc_api_Value_api_Value p (ent_none _ _))) rfl ((e_slices_ContainsFunc_api_Value_api_Value p _ _ _ _ _ _ _).trans h)
  · exact hF _ _ _ _ _ h
abbrev Ty_catalog_Table : Type 1 := ByteArray → List (List Dat) → List (List Dat) → (γ : Type) → (Int → Option γ) → Option γ
def P_catalog_Table (X : Ty_catalog_Table) (F : Ent3) : Ent3 := fun a s γ K => match a, s with
  | [agg [(str v_t0, Own.none), (sl v_t1, Own.none), (sl v_t2, Own.none)]], [] => X v_t0 v_t1 v_t2 γ (fun r0 => K ([(dat (int i64 r0), Own.none)], []))
  | a, s => F a s γ K
def T_catalog_Table (x_lex_Name : Ty_lex_Name) (x_slices_ContainsFunc_api_Column_api_Column : Ty_slices_ContainsFunc_api_Column_api_Column) (x_catalog_unlike_api_Column : Ty_catalog_unlike_api_Column) (x_slices_ContainsFunc_api_Value_api_Value : Ty_slices_ContainsFunc_api_Value_api_Value) : CallK := (addK (addK (addK (addK noneK 38 (P_lex_Name x_lex_Name none3)) 39 (P_slices_ContainsFunc_api_Column_api_Column x_slices_ContainsFunc_api_Column_api_Column none3)) 41 (P_catalog_unlike_api_Column x_catalog_unlike_api_Column none3)) 43 (P_slices_ContainsFunc_api_Value_api_Value x_slices_ContainsFunc_api_Value_api_Value none3))
def L_catalog_Table (x_lex_Name : Ty_lex_Name) (x_slices_ContainsFunc_api_Column_api_Column : Ty_slices_ContainsFunc_api_Column_api_Column) (x_catalog_unlike_api_Column : Ty_catalog_unlike_api_Column) (x_slices_ContainsFunc_api_Value_api_Value : Ty_slices_ContainsFunc_api_Value_api_Value) : LoopK := noneL
def Sp.B_catalog_Table (x_lex_Name : Ty_lex_Name) (x_slices_ContainsFunc_api_Column_api_Column : Ty_slices_ContainsFunc_api_Column_api_Column) (x_catalog_unlike_api_Column : Ty_catalog_unlike_api_Column) (x_slices_ContainsFunc_api_Value_api_Value : Ty_slices_ContainsFunc_api_Value_api_Value) (v_t0 : ByteArray) (v_t1 v_t2 : List (List Dat)) (γ : Type) (K : Int → Option γ) : Option γ := x_lex_Name v_t0 γ fun z5 => bif !z5 then K 130 else bif decide (Int.ofNat (List.length v_t1) < 1) then K 130 else bif decide (16 < Int.ofNat (List.length v_t1)) then K 130 else bif decide (4096 < Int.ofNat (List.length v_t2)) then K 130 else x_slices_ContainsFunc_api_Column_api_Column v_t1 γ fun z6 => bif z6 then K 130 else x_catalog_unlike_api_Column v_t1 γ fun z7 => bif !z7 then K 130 else x_slices_ContainsFunc_api_Value_api_Value v_t2 v_t0 v_t1 v_t2 γ fun z8 z9 z10 z11 => bif z8 then K 130 else K 0
theorem e_catalog_Table (p : Par) (x_lex_Name x_slices_ContainsFunc_api_Column_api_Column x_catalog_unlike_api_Column x_slices_ContainsFunc_api_Value_api_Value v_t0 v_t1 v_t2) (γ : Type) (K : List Ent × Sig → Option γ) : evFK (cfg p) (T_catalog_Table x_lex_Name x_slices_ContainsFunc_api_Column_api_Column x_catalog_unlike_api_Column x_slices_ContainsFunc_api_Value_api_Value) (L_catalog_Table x_lex_Name x_slices_ContainsFunc_api_Column_api_Column x_catalog_unlike_api_Column x_slices_ContainsFunc_api_Value_api_Value) 14 [agg [(str v_t0, Own.none), (sl v_t1, Own.none), (sl v_t2, Own.none)]] [] γ K = Sp.B_catalog_Table x_lex_Name x_slices_ContainsFunc_api_Column_api_Column x_catalog_unlike_api_Column x_slices_ContainsFunc_api_Value_api_Value v_t0 v_t1 v_t2 γ (fun r0 => K ([(dat (int i64 r0), Own.none)], [])) := by kernel_rfl
def Sp.catalog_Table : Ty_catalog_Table := Sp.B_catalog_Table Sp.lex_Name Sp.slices_ContainsFunc_api_Column_api_Column Sp.catalog_unlike_api_Column Sp.slices_ContainsFunc_api_Value_api_Value
theorem E_catalog_Table (p : Par) {F : Ent3} (hF : EntOk (cfg p) 14 F) : EntOk (cfg p) 14 (P_catalog_Table Sp.catalog_Table F) := by
  intro a s γ K q h
  unfold P_catalog_Table at h
  split at h
  · exact body_ok (tab_call (tab_call (tab_call (tab_call (tab_nil _) (E_lex_Name p (ent_none _ _))) (E_slices_ContainsFunc_api_Column_api_Column p (ent_none _ _))) (E_catalog_unlike_api_Column p (ent_none _ _))) (E_slices_ContainsFunc_api_Value_api_Value p (ent_none _ _))) rfl ((e_catalog_Table p _ _ _ _ _ _ _ _ _).trans h)
  · exact hF _ _ _ _ _ h
abbrev Ty_page_New : Type 1 := (γ : Type) → (List (List Dat) → Option γ) → Option γ
def P_page_New (X : Ty_page_New) (F : Ent3) : Ent3 := fun a s γ K => match a, s with
  | [], [] => X γ (fun r0 => K ([(dat (sl r0), Own.none)], []))
  | a, s => F a s γ K
def T_page_New : CallK := noneK
def L_page_New : LoopK := noneL
def Sp.B_page_New (γ : Type) (K : List (List Dat) → Option γ) : Option γ := K [[Dat.int IntKind.u8 0], [Dat.int IntKind.u8 0], [Dat.int IntKind.u8 0], [Dat.int IntKind.u8 0], [Dat.int IntKind.u8 0], [Dat.int IntKind.u8 0], [Dat.int IntKind.u8 0], [Dat.int IntKind.u8 0], [Dat.int IntKind.u8 0], [Dat.int IntKind.u8 0], [Dat.int IntKind.u8 0], [Dat.int IntKind.u8 0], [Dat.int IntKind.u8 0], [Dat.int IntKind.u8 0], [Dat.int IntKind.u8 0], [Dat.int IntKind.u8 0], [Dat.int IntKind.u8 0], [Dat.int IntKind.u8 0], [Dat.int IntKind.u8 0], [Dat.int IntKind.u8 0], [Dat.int IntKind.u8 0], [Dat.int IntKind.u8 0], [Dat.int IntKind.u8 0], [Dat.int IntKind.u8 0], [Dat.int IntKind.u8 0], [Dat.int IntKind.u8 0], [Dat.int IntKind.u8 0], [Dat.int IntKind.u8 0], [Dat.int IntKind.u8 0], [Dat.int IntKind.u8 0], [Dat.int IntKind.u8 0], [Dat.int IntKind.u8 0], [Dat.int IntKind.u8 0], [Dat.int IntKind.u8 0], [Dat.int IntKind.u8 0], [Dat.int IntKind.u8 0], [Dat.int IntKind.u8 0], [Dat.int IntKind.u8 0], [Dat.int IntKind.u8 0], [Dat.int IntKind.u8 0], [Dat.int IntKind.u8 0], [Dat.int IntKind.u8 0], [Dat.int IntKind.u8 0], [Dat.int IntKind.u8 0], [Dat.int IntKind.u8 0], [Dat.int IntKind.u8 0], [Dat.int IntKind.u8 0], [Dat.int IntKind.u8 0], [Dat.int IntKind.u8 0], [Dat.int IntKind.u8 0], [Dat.int IntKind.u8 0], [Dat.int IntKind.u8 0], [Dat.int IntKind.u8 0], [Dat.int IntKind.u8 0], [Dat.int IntKind.u8 0], [Dat.int IntKind.u8 0], [Dat.int IntKind.u8 0], [Dat.int IntKind.u8 0], [Dat.int IntKind.u8 0], [Dat.int IntKind.u8 0], [Dat.int IntKind.u8 0], [Dat.int IntKind.u8 0], [Dat.int IntKind.u8 0], [Dat.int IntKind.u8 0], [Dat.int IntKind.u8 0], [Dat.int IntKind.u8 0], [Dat.int IntKind.u8 0], [Dat.int IntKind.u8 0], [Dat.int IntKind.u8 0], [Dat.int IntKind.u8 0], [Dat.int IntKind.u8 0], [Dat.int IntKind.u8 0], [Dat.int IntKind.u8 0], [Dat.int IntKind.u8 0], [Dat.int IntKind.u8 0], [Dat.int IntKind.u8 0], [Dat.int IntKind.u8 0], [Dat.int IntKind.u8 0], [Dat.int IntKind.u8 0], [Dat.int IntKind.u8 0], [Dat.int IntKind.u8 0], [Dat.int IntKind.u8 0], [Dat.int IntKind.u8 0], [Dat.int IntKind.u8 0], [Dat.int IntKind.u8 0], [Dat.int IntKind.u8 0], [Dat.int IntKind.u8 0], [Dat.int IntKind.u8 0], [Dat.int IntKind.u8 0], [Dat.int IntKind.u8 0], [Dat.int IntKind.u8 0], [Dat.int IntKind.u8 0], [Dat.int IntKind.u8 0], [Dat.int IntKind.u8 0], [Dat.int IntKind.u8 0], [Dat.int IntKind.u8 0], [Dat.int IntKind.u8 0], [Dat.int IntKind.u8 0], [Dat.int IntKind.u8 0], [Dat.int IntKind.u8 0], [Dat.int IntKind.u8 0], [Dat.int IntKind.u8 0], [Dat.int IntKind.u8 0], [Dat.int IntKind.u8 0], [Dat.int IntKind.u8 0], [Dat.int IntKind.u8 0], [Dat.int IntKind.u8 0], [Dat.int IntKind.u8 0], [Dat.int IntKind.u8 0], [Dat.int IntKind.u8 0], [Dat.int IntKind.u8 0], [Dat.int IntKind.u8 0], [Dat.int IntKind.u8 0], [Dat.int IntKind.u8 0], [Dat.int IntKind.u8 0], [Dat.int IntKind.u8 0], [Dat.int IntKind.u8 0], [Dat.int IntKind.u8 0], [Dat.int IntKind.u8 0], [Dat.int IntKind.u8 0], [Dat.int IntKind.u8 0], [Dat.int IntKind.u8 0], [Dat.int IntKind.u8 0], [Dat.int IntKind.u8 0], [Dat.int IntKind.u8 0], [Dat.int IntKind.u8 0], [Dat.int IntKind.u8 0], [Dat.int IntKind.u8 0], [Dat.int IntKind.u8 0], [Dat.int IntKind.u8 0], [Dat.int IntKind.u8 0], [Dat.int IntKind.u8 0], [Dat.int IntKind.u8 0], [Dat.int IntKind.u8 0], [Dat.int IntKind.u8 0], [Dat.int IntKind.u8 0], [Dat.int IntKind.u8 0], [Dat.int IntKind.u8 0], [Dat.int IntKind.u8 0], [Dat.int IntKind.u8 0], [Dat.int IntKind.u8 0], [Dat.int IntKind.u8 0], [Dat.int IntKind.u8 0], [Dat.int IntKind.u8 0], [Dat.int IntKind.u8 0], [Dat.int IntKind.u8 0], [Dat.int IntKind.u8 0], [Dat.int IntKind.u8 0], [Dat.int IntKind.u8 0], [Dat.int IntKind.u8 0], [Dat.int IntKind.u8 0], [Dat.int IntKind.u8 0], [Dat.int IntKind.u8 0], [Dat.int IntKind.u8 0], [Dat.int IntKind.u8 0], [Dat.int IntKind.u8 0], [Dat.int IntKind.u8 0], [Dat.int IntKind.u8 0], [Dat.int IntKind.u8 0], [Dat.int IntKind.u8 0], [Dat.int IntKind.u8 0], [Dat.int IntKind.u8 0], [Dat.int IntKind.u8 0], [Dat.int IntKind.u8 0], [Dat.int IntKind.u8 0], [Dat.int IntKind.u8 0], [Dat.int IntKind.u8 0], [Dat.int IntKind.u8 0], [Dat.int IntKind.u8 0], [Dat.int IntKind.u8 0], [Dat.int IntKind.u8 0], [Dat.int IntKind.u8 0], [Dat.int IntKind.u8 0], [Dat.int IntKind.u8 0], [Dat.int IntKind.u8 0], [Dat.int IntKind.u8 0], [Dat.int IntKind.u8 0], [Dat.int IntKind.u8 0], [Dat.int IntKind.u8 0], [Dat.int IntKind.u8 0], [Dat.int IntKind.u8 0], [Dat.int IntKind.u8 0], [Dat.int IntKind.u8 0], [Dat.int IntKind.u8 0], [Dat.int IntKind.u8 0], [Dat.int IntKind.u8 0], [Dat.int IntKind.u8 0], [Dat.int IntKind.u8 0], [Dat.int IntKind.u8 0], [Dat.int IntKind.u8 0], [Dat.int IntKind.u8 0], [Dat.int IntKind.u8 0], [Dat.int IntKind.u8 0], [Dat.int IntKind.u8 0], [Dat.int IntKind.u8 0], [Dat.int IntKind.u8 0], [Dat.int IntKind.u8 0], [Dat.int IntKind.u8 0], [Dat.int IntKind.u8 0], [Dat.int IntKind.u8 0], [Dat.int IntKind.u8 0], [Dat.int IntKind.u8 0], [Dat.int IntKind.u8 0], [Dat.int IntKind.u8 0], [Dat.int IntKind.u8 0], [Dat.int IntKind.u8 0], [Dat.int IntKind.u8 0], [Dat.int IntKind.u8 0], [Dat.int IntKind.u8 0], [Dat.int IntKind.u8 0], [Dat.int IntKind.u8 0], [Dat.int IntKind.u8 0], [Dat.int IntKind.u8 0], [Dat.int IntKind.u8 0], [Dat.int IntKind.u8 0], [Dat.int IntKind.u8 0], [Dat.int IntKind.u8 0], [Dat.int IntKind.u8 0], [Dat.int IntKind.u8 0], [Dat.int IntKind.u8 0], [Dat.int IntKind.u8 0], [Dat.int IntKind.u8 0], [Dat.int IntKind.u8 0], [Dat.int IntKind.u8 0], [Dat.int IntKind.u8 0], [Dat.int IntKind.u8 0], [Dat.int IntKind.u8 0], [Dat.int IntKind.u8 0], [Dat.int IntKind.u8 0], [Dat.int IntKind.u8 0], [Dat.int IntKind.u8 0], [Dat.int IntKind.u8 0], [Dat.int IntKind.u8 0], [Dat.int IntKind.u8 0], [Dat.int IntKind.u8 0], [Dat.int IntKind.u8 0], [Dat.int IntKind.u8 0], [Dat.int IntKind.u8 0], [Dat.int IntKind.u8 0], [Dat.int IntKind.u8 0], [Dat.int IntKind.u8 0], [Dat.int IntKind.u8 0], [Dat.int IntKind.u8 0], [Dat.int IntKind.u8 0], [Dat.int IntKind.u8 0], [Dat.int IntKind.u8 0], [Dat.int IntKind.u8 0], [Dat.int IntKind.u8 0], [Dat.int IntKind.u8 0], [Dat.int IntKind.u8 0], [Dat.int IntKind.u8 0], [Dat.int IntKind.u8 0], [Dat.int IntKind.u8 0], [Dat.int IntKind.u8 0], [Dat.int IntKind.u8 0], [Dat.int IntKind.u8 0]]
theorem e_page_New (p : Par)  (γ : Type) (K : List Ent × Sig → Option γ) : evFK (cfg p) (T_page_New) (L_page_New) 84 [] [] γ K = Sp.B_page_New γ (fun r0 => K ([(dat (sl r0), Own.none)], [])) := by kernel_rfl
def Sp.page_New : Ty_page_New := Sp.B_page_New 
theorem E_page_New (p : Par) {F : Ent3} (hF : EntOk (cfg p) 84 F) : EntOk (cfg p) 84 (P_page_New Sp.page_New F) := by
  intro a s γ K q h
  unfold P_page_New at h
  split at h
  · exact body_ok (tab_nil _) rfl ((e_page_New p _ _).trans h)
  · exact hF _ _ _ _ _ h
abbrev Ty_page_Fill_L0 : Type 1 := List (List Dat) → List (List Dat) → Int → List (List Dat) → Int → List (List Dat) → List (List Dat) → Int → (γ : Type) → (Ex → List (List Dat) → Int → List (List Dat) → List (List Dat) → Int → Option γ) → Option γ
def P_page_Fill_L0 (X : Ty_page_Fill_L0) (F : Loop3) : Loop3 := fun a s γ K => match a, s with
  | [dat (sl v_l), dat (sl v_), dat (int i64 v__1)], ([dat (sl v__2), dat (int i64 v__3), dat (sl v_out), dat (sl v_p), dat (int i64 v__4)], []) => X v_l v_ v__1 v__2 v__3 v_out v_p v__4 γ (fun e x0 x1 x2 x3 x4 => K (e, ([dat (sl x0), dat (int i64 x1), dat (sl x2), dat (sl x3), dat (int i64 x4)], [])))
  | a, s => F a s γ K
def T_page_Fill_L0 (x_page_Add : Ty_page_Add) (x_page_New : Ty_page_New) : CallK := (addK (addK noneK 85 (P_page_Add x_page_Add none3)) 84 (P_page_New x_page_New none3))
def L_page_Fill_L0 (x_page_Add : Ty_page_Add) (x_page_New : Ty_page_New) : LoopK := noneL
def Sp.B_page_Fill_L0 (x_page_Fill_L0 : Ty_page_Fill_L0) (x_page_Add : Ty_page_Add) (x_page_New : Ty_page_New) (v_l v_ : List (List Dat)) (v__1 : Int) (v__2 : List (List Dat)) (v__3 : Int) (v_out v_p : List (List Dat)) (v__4 : Int) (γ : Type) (K : Ex → List (List Dat) → Int → List (List Dat) → List (List Dat) → Int → Option γ) : Option γ := bif sized v__2 1 then bif sized v_out 1 then bif decide (v__4 < v__1) then elemAt v_ v__4 fun z10 => bif List.length z10 == 1 then cellAt z10 0 fun z11 => asSl z11 fun z12 => x_page_Add v_p z12 γ fun z13 z14 => bif decide (z14 = 2) then bif sized v_out 1 && true && true && decide ((List.length v_out + 1) * 25 ≤ 70368744177664) && true then x_page_New γ fun z15 => x_page_Add z15 z12 γ fun z16 z17 => bif !decide (z17 = 0) then K Ex.ret [] z17 (v_out ++ [[sl v_p]]) v_p v__4 else x_page_Fill_L0 v_l v_ v__1 v__2 v__3 (v_out ++ [[sl v_p]]) z16 (IntKind.wrap i64 (v__4 + 1)) γ K else none else bif !decide (z14 = 0) then K Ex.ret [] z14 v_out v_p v__4 else x_page_Fill_L0 v_l v_ v__1 v__2 v__3 v_out z13 (IntKind.wrap i64 (v__4 + 1)) γ K else none else K (Ex.exit 0) v__2 v__3 v_out v_p v__4 else none else none
theorem e_page_Fill_L0 (p : Par) (x_page_Fill_L0 : Ty_page_Fill_L0) (x_page_Add x_page_New v_l v_ v__1 v__2 v__3 v_out v_p v__4) (γ : Type) (K : Ex × Vars → Option γ) : roundK (cfg p) (T_page_Fill_L0 x_page_Add x_page_New) (L_page_Fill_L0 x_page_Add x_page_New) 55 0 [dat (sl v_l), dat (sl v_), dat (int i64 v__1)] ([dat (sl v__2), dat (int i64 v__3), dat (sl v_out), dat (sl v_p), dat (int i64 v__4)], []) γ (contL (fun v => P_page_Fill_L0 x_page_Fill_L0 noneL3 [dat (sl v_l), dat (sl v_), dat (int i64 v__1)] v γ K) K) = Sp.B_page_Fill_L0 x_page_Fill_L0 x_page_Add x_page_New v_l v_ v__1 v__2 v__3 v_out v_p v__4 γ (fun e x0 x1 x2 x3 x4 => K (e, ([dat (sl x0), dat (int i64 x1), dat (sl x2), dat (sl x3), dat (int i64 x4)], []))) := by kernel_rfl
def Sp.page_Fill_L0 : Nat → Ty_page_Fill_L0
  | 0 => fun _ _ _ _ _ _ _ _ _ _ => none
  | n + 1 => Sp.B_page_Fill_L0 (Sp.page_Fill_L0 n) Sp.page_Add Sp.page_New
theorem E0_page_Fill_L0 (p : Par)   : ∀ n, EntOkL (cfg p) 55 0 (P_page_Fill_L0 (Sp.page_Fill_L0 n) noneL3) := entL_rounds (tab_call (tab_call (tab_nil _) (E_page_Add p (ent_none _ _))) (E_page_New p (ent_none _ _))) (by kernel_rfl) (fun c v γ K => by unfold P_page_Fill_L0; split <;> rfl) fun n c v γ K q h => by
  unfold P_page_Fill_L0 at h
  split at h
  · exact (e_page_Fill_L0 p _ _ _ _ _ _ _ _ _ _ _ _ _).trans h
  · cases h
theorem E_page_Fill_L0 (p : Par)   (n : Nat) {F : Loop3} (hF : EntOkL (cfg p) 55 0 F) : EntOkL (cfg p) 55 0 (P_page_Fill_L0 (Sp.page_Fill_L0 n) F) := by
  intro c v γ K q h
  unfold P_page_Fill_L0 at h
  split at h
  · exact E0_page_Fill_L0 p n _ _ _ _ _ h
  · exact hF _ _ _ _ _ h
abbrev Ty_page_Fill : Type 1 := List (List Dat) → (γ : Type) → (List (List Dat) → Int → Option γ) → Option γ
def P_page_Fill (X : Ty_page_Fill) (F : Ent3) : Ent3 := fun a s γ K => match a, s with
  | [dat (sl v_l)], [] => X v_l γ (fun r0 r1 => K ([(dat (sl r0), Own.none), (dat (int i64 r1), Own.none)], []))
  | a, s => F a s γ K
def T_page_Fill (x_page_New : Ty_page_New) (x_page_Fill_L0 : Ty_page_Fill_L0) : CallK := (addK noneK 84 (P_page_New x_page_New none3))
def L_page_Fill (x_page_New : Ty_page_New) (x_page_Fill_L0 : Ty_page_Fill_L0) : LoopK := (addL noneL 55 0 (P_page_Fill_L0 x_page_Fill_L0 noneL3))
def Sp.B_page_Fill (x_page_New : Ty_page_New) (x_page_Fill_L0 : Ty_page_Fill_L0) (v_l : List (List Dat)) (γ : Type) (K : List (List Dat) → Int → Option γ) : Option γ := x_page_New γ fun z3 => x_page_Fill_L0 v_l v_l (Int.ofNat (List.length v_l)) [] 0 [] z3 0 γ fun z4 z5 z6 z7 z8 z9 => bif sized z5 1 then bif sized z7 1 then bif Ex.isExit z4 0 then bif decide (0 < Int.ofNat (List.length v_l)) then bif sized z7 1 && true && true && decide ((List.length z7 + 1) * 25 ≤ 70368744177664) && true then K (z7 ++ [[sl z8]]) 0 else none else K z7 0 else bif Ex.isRet z4 then K z5 z6 else none else none else none
theorem e_page_Fill (p : Par) (x_page_New x_page_Fill_L0 v_l) (γ : Type) (K : List Ent × Sig → Option γ) : evFK (cfg p) (T_page_Fill x_page_New x_page_Fill_L0) (L_page_Fill x_page_New x_page_Fill_L0) 55 [dat (sl v_l)] [] γ K = Sp.B_page_Fill x_page_New x_page_Fill_L0 v_l γ (fun r0 r1 => K ([(dat (sl r0), Own.none), (dat (int i64 r1), Own.none)], [])) := by kernel_rfl
def Sp.page_Fill : Ty_page_Fill := Sp.B_page_Fill Sp.page_New (Sp.page_Fill_L0 fuel)
theorem E_page_Fill (p : Par) {F : Ent3} (hF : EntOk (cfg p) 55 F) : EntOk (cfg p) 55 (P_page_Fill Sp.page_Fill F) := by
  intro a s γ K q h
  unfold P_page_Fill at h
  split at h
  · exact body_ok (tab_loop (tab_call (tab_nil _) (E_page_New p (ent_none _ _))) (E_page_Fill_L0 p fuel (entL_none _ _ _))) rfl ((e_page_Fill p _ _ _ _ _).trans h)
  · exact hF _ _ _ _ _ h
abbrev Ty_catalog_Pages : Type 1 := ByteArray → List (List Dat) → List (List Dat) → (γ : Type) → (List (List Dat) → Int → Option γ) → Option γ
def P_catalog_Pages (X : Ty_catalog_Pages) (F : Ent3) : Ent3 := fun a s γ K => match a, s with
  | [agg [(str v_t0, Own.none), (sl v_t1, Own.none), (sl v_t2, Own.none)]], [] => X v_t0 v_t1 v_t2 γ (fun r0 r1 => K ([(dat (sl r0), Own.none), (dat (int i64 r1), Own.none)], []))
  | a, s => F a s γ K
def T_catalog_Pages (x_catalog_Table : Ty_catalog_Table) (x_page_Fill : Ty_page_Fill) : CallK := (addK (addK noneK 14 (P_catalog_Table x_catalog_Table none3)) 55 (P_page_Fill x_page_Fill none3))
def L_catalog_Pages (x_catalog_Table : Ty_catalog_Table) (x_page_Fill : Ty_page_Fill) : LoopK := noneL
def Sp.B_catalog_Pages (x_catalog_Table : Ty_catalog_Table) (x_page_Fill : Ty_page_Fill) (v_t0 : ByteArray) (v_t1 v_t2 : List (List Dat)) (γ : Type) (K : List (List Dat) → Int → Option γ) : Option γ := x_catalog_Table v_t0 v_t1 v_t2 γ fun z5 => bif !decide (z5 = 0) then K [] z5 else x_page_Fill v_t2 γ fun z6 z7 => K z6 z7
theorem e_catalog_Pages (p : Par) (x_catalog_Table x_page_Fill v_t0 v_t1 v_t2) (γ : Type) (K : List Ent × Sig → Option γ) : evFK (cfg p) (T_catalog_Pages x_catalog_Table x_page_Fill) (L_catalog_Pages x_catalog_Table x_page_Fill) 25 [agg [(str v_t0, Own.none), (sl v_t1, Own.none), (sl v_t2, Own.none)]] [] γ K = Sp.B_catalog_Pages x_catalog_Table x_page_Fill v_t0 v_t1 v_t2 γ (fun r0 r1 => K ([(dat (sl r0), Own.none), (dat (int i64 r1), Own.none)], [])) := by kernel_rfl
def Sp.catalog_Pages : Ty_catalog_Pages := Sp.B_catalog_Pages Sp.catalog_Table Sp.page_Fill
theorem E_catalog_Pages (p : Par) {F : Ent3} (hF : EntOk (cfg p) 25 F) : EntOk (cfg p) 25 (P_catalog_Pages Sp.catalog_Pages F) := by
  intro a s γ K q h
  unfold P_catalog_Pages at h
  split at h
  · exact body_ok (tab_call (tab_call (tab_nil _) (E_catalog_Table p (ent_none _ _))) (E_page_Fill p (ent_none _ _))) rfl ((e_catalog_Pages p _ _ _ _ _ _ _).trans h)
  · exact hF _ _ _ _ _ h
abbrev Ty_catalog_Check_1 : Type 1 := ByteArray → List (List Dat) → List (List Dat) → (γ : Type) → (Bool → Option γ) → Option γ
def P_catalog_Check_1 (X : Ty_catalog_Check_1) (F : Ent3) : Ent3 := fun a s γ K => match a, s with
  | [agg [(str v_t0, Own.none), (sl v_t1, Own.none), (sl v_t2, Own.none)]], [] => X v_t0 v_t1 v_t2 γ (fun r0 => K ([(dat (Dat.bool r0), Own.none)], []))
  | a, s => F a s γ K
def T_catalog_Check_1 (x_catalog_Table : Ty_catalog_Table) : CallK := (addK noneK 14 (P_catalog_Table x_catalog_Table none3))
def L_catalog_Check_1 (x_catalog_Table : Ty_catalog_Table) : LoopK := noneL
def Sp.B_catalog_Check_1 (x_catalog_Table : Ty_catalog_Table) (v_t0 : ByteArray) (v_t1 v_t2 : List (List Dat)) (γ : Type) (K : Bool → Option γ) : Option γ := x_catalog_Table v_t0 v_t1 v_t2 γ fun z5 => K !decide (z5 = 0)
theorem e_catalog_Check_1 (p : Par) (x_catalog_Table v_t0 v_t1 v_t2) (γ : Type) (K : List Ent × Sig → Option γ) : evFK (cfg p) (T_catalog_Check_1 x_catalog_Table) (L_catalog_Check_1 x_catalog_Table) 32 [agg [(str v_t0, Own.none), (sl v_t1, Own.none), (sl v_t2, Own.none)]] [] γ K = Sp.B_catalog_Check_1 x_catalog_Table v_t0 v_t1 v_t2 γ (fun r0 => K ([(dat (Dat.bool r0), Own.none)], [])) := by kernel_rfl
def Sp.catalog_Check_1 : Ty_catalog_Check_1 := Sp.B_catalog_Check_1 Sp.catalog_Table
theorem E_catalog_Check_1 (p : Par) {F : Ent3} (hF : EntOk (cfg p) 32 F) : EntOk (cfg p) 32 (P_catalog_Check_1 Sp.catalog_Check_1 F) := by
  intro a s γ K q h
  unfold P_catalog_Check_1 at h
  split at h
  · exact body_ok (tab_call (tab_nil _) (E_catalog_Table p (ent_none _ _))) rfl ((e_catalog_Check_1 p _ _ _ _ _ _).trans h)
  · exact hF _ _ _ _ _ h
abbrev Ty_slices_IndexFunc_api_Table_api_Table_L0'1 : Type 1 := List (List Dat) → Int → Int → Int → (γ : Type) → (Ex → Int → Int → Option γ) → Option γ
def P_slices_IndexFunc_api_Table_api_Table_L0'1 (X : Ty_slices_IndexFunc_api_Table_api_Table_L0'1) (F : Loop3) : Loop3 := fun a s γ K => match a, s with
  | [dat (sl v_s), AVal.clo (Fn.func 32) [] [], dat (int i64 v_)], ([dat (int i64 v__1), dat (int i64 v__2)], []) => X v_s v_ v__1 v__2 γ (fun e x0 x1 => K (e, ([dat (int i64 x0), dat (int i64 x1)], [])))
  | a, s => F a s γ K
def T_slices_IndexFunc_api_Table_api_Table_L0'1 (x_catalog_Check_1 : Ty_catalog_Check_1) : CallK := (addK noneK 32 (P_catalog_Check_1 x_catalog_Check_1 none3))
def L_slices_IndexFunc_api_Table_api_Table_L0'1 (x_catalog_Check_1 : Ty_catalog_Check_1) : LoopK := noneL
def Sp.B_slices_IndexFunc_api_Table_api_Table_L0'1 (x_slices_IndexFunc_api_Table_api_Table_L0'1 : Ty_slices_IndexFunc_api_Table_api_Table_L0'1) (x_catalog_Check_1 : Ty_catalog_Check_1) (v_s : List (List Dat)) (v_ v__1 v__2 : Int) (γ : Type) (K : Ex → Int → Int → Option γ) : Option γ := bif decide (v__2 < v_) then elemAt v_s v__2 fun z6 => bif List.length z6 == 3 then cellAt z6 0 fun z7 => asStr z7 fun z8 => cellAt z6 1 fun z9 => asSl z9 fun z10 => cellAt z6 2 fun z11 => asSl z11 fun z12 => x_catalog_Check_1 z8 z10 z12 γ fun z13 => bif z13 then K Ex.ret v__2 v__2 else x_slices_IndexFunc_api_Table_api_Table_L0'1 v_s v_ v__1 (IntKind.wrap i64 (v__2 + 1)) γ K else none else K (Ex.exit 0) v__1 v__2
theorem e_slices_IndexFunc_api_Table_api_Table_L0'1 (p : Par) (x_slices_IndexFunc_api_Table_api_Table_L0'1 : Ty_slices_IndexFunc_api_Table_api_Table_L0'1) (x_catalog_Check_1 v_s v_ v__1 v__2) (γ : Type) (K : Ex × Vars → Option γ) : roundK (cfg p) (T_slices_IndexFunc_api_Table_api_Table_L0'1 x_catalog_Check_1) (L_slices_IndexFunc_api_Table_api_Table_L0'1 x_catalog_Check_1) 30 0 [dat (sl v_s), AVal.clo (Fn.func 32) [] [], dat (int i64 v_)] ([dat (int i64 v__1), dat (int i64 v__2)], []) γ (contL (fun v => P_slices_IndexFunc_api_Table_api_Table_L0'1 x_slices_IndexFunc_api_Table_api_Table_L0'1 noneL3 [dat (sl v_s), AVal.clo (Fn.func 32) [] [], dat (int i64 v_)] v γ K) K) = Sp.B_slices_IndexFunc_api_Table_api_Table_L0'1 x_slices_IndexFunc_api_Table_api_Table_L0'1 x_catalog_Check_1 v_s v_ v__1 v__2 γ (fun e x0 x1 => K (e, ([dat (int i64 x0), dat (int i64 x1)], []))) := by kernel_rfl
def Sp.slices_IndexFunc_api_Table_api_Table_L0'1 : Nat → Ty_slices_IndexFunc_api_Table_api_Table_L0'1
  | 0 => fun _ _ _ _ _ _ => none
  | n + 1 => Sp.B_slices_IndexFunc_api_Table_api_Table_L0'1 (Sp.slices_IndexFunc_api_Table_api_Table_L0'1 n) Sp.catalog_Check_1
theorem E0_slices_IndexFunc_api_Table_api_Table_L0'1 (p : Par)   : ∀ n, EntOkL (cfg p) 30 0 (P_slices_IndexFunc_api_Table_api_Table_L0'1 (Sp.slices_IndexFunc_api_Table_api_Table_L0'1 n) noneL3) := entL_rounds (tab_call (tab_nil _) (E_catalog_Check_1 p (ent_none _ _))) (by kernel_rfl) (fun c v γ K => by unfold P_slices_IndexFunc_api_Table_api_Table_L0'1; split <;> rfl) fun n c v γ K q h => by
  unfold P_slices_IndexFunc_api_Table_api_Table_L0'1 at h
  split at h
  · exact (e_slices_IndexFunc_api_Table_api_Table_L0'1 p _ _ _ _ _ _ _ _).trans h
  · cases h
theorem E_slices_IndexFunc_api_Table_api_Table_L0'1 (p : Par)   (n : Nat) {F : Loop3} (hF : EntOkL (cfg p) 30 0 F) : EntOkL (cfg p) 30 0 (P_slices_IndexFunc_api_Table_api_Table_L0'1 (Sp.slices_IndexFunc_api_Table_api_Table_L0'1 n) F) := by
  intro c v γ K q h
  unfold P_slices_IndexFunc_api_Table_api_Table_L0'1 at h
  split at h
  · exact E0_slices_IndexFunc_api_Table_api_Table_L0'1 p n _ _ _ _ _ h
  · exact hF _ _ _ _ _ h
abbrev Ty_slices_IndexFunc_api_Table_api_Table'1 : Type 1 := List (List Dat) → (γ : Type) → (Int → Option γ) → Option γ
def P_slices_IndexFunc_api_Table_api_Table'1 (X : Ty_slices_IndexFunc_api_Table_api_Table'1) (F : Ent3) : Ent3 := fun a s γ K => match a, s with
  | [dat (sl v_s), AVal.clo (Fn.func 32) [] []], [] => X v_s γ (fun r0 => K ([(dat (int i64 r0), Own.none)], []))
  | a, s => F a s γ K
def T_slices_IndexFunc_api_Table_api_Table'1 (x_slices_IndexFunc_api_Table_api_Table_L0'1 : Ty_slices_IndexFunc_api_Table_api_Table_L0'1) : CallK := noneK
def L_slices_IndexFunc_api_Table_api_Table'1 (x_slices_IndexFunc_api_Table_api_Table_L0'1 : Ty_slices_IndexFunc_api_Table_api_Table_L0'1) : LoopK := (addL noneL 30 0 (P_slices_IndexFunc_api_Table_api_Table_L0'1 x_slices_IndexFunc_api_Table_api_Table_L0'1 noneL3))
def Sp.B_slices_IndexFunc_api_Table_api_Table'1 (x_slices_IndexFunc_api_Table_api_Table_L0'1 : Ty_slices_IndexFunc_api_Table_api_Table_L0'1) (v_s : List (List Dat)) (γ : Type) (K : Int → Option γ) : Option γ := x_slices_IndexFunc_api_Table_api_Table_L0'1 v_s (Int.ofNat (List.length v_s)) 0 0 γ fun z3 z4 z5 => bif Ex.isExit z3 0 then K (-1) else bif Ex.isRet z3 then K z4 else none
theorem e_slices_IndexFunc_api_Table_api_Table'1 (p : Par) (x_slices_IndexFunc_api_Table_api_Table_L0'1 v_s) (γ : Type) (K : List Ent × Sig → Option γ) : evFK (cfg p) (T_slices_IndexFunc_api_Table_api_Table'1 x_slices_IndexFunc_api_Table_api_Table_L0'1) (L_slices_IndexFunc_api_Table_api_Table'1 x_slices_IndexFunc_api_Table_api_Table_L0'1) 30 [dat (sl v_s), AVal.clo (Fn.func 32) [] []] [] γ K = Sp.B_slices_IndexFunc_api_Table_api_Table'1 x_slices_IndexFunc_api_Table_api_Table_L0'1 v_s γ (fun r0 => K ([(dat (int i64 r0), Own.none)], [])) := by kernel_rfl
def Sp.slices_IndexFunc_api_Table_api_Table'1 : Ty_slices_IndexFunc_api_Table_api_Table'1 := Sp.B_slices_IndexFunc_api_Table_api_Table'1 (Sp.slices_IndexFunc_api_Table_api_Table_L0'1 fuel)
theorem E_slices_IndexFunc_api_Table_api_Table'1 (p : Par) {F : Ent3} (hF : EntOk (cfg p) 30 F) : EntOk (cfg p) 30 (P_slices_IndexFunc_api_Table_api_Table'1 Sp.slices_IndexFunc_api_Table_api_Table'1 F) := by
  intro a s γ K q h
  unfold P_slices_IndexFunc_api_Table_api_Table'1 at h
  split at h
  · exact body_ok (tab_loop (tab_nil _) (E_slices_IndexFunc_api_Table_api_Table_L0'1 p fuel (entL_none _ _ _))) rfl ((e_slices_IndexFunc_api_Table_api_Table'1 p _ _ _ _).trans h)
  · exact hF _ _ _ _ _ h
abbrev Ty_slices_ContainsFunc_api_Table_api_Table : Type 1 := List (List Dat) → (γ : Type) → (Bool → Option γ) → Option γ
def P_slices_ContainsFunc_api_Table_api_Table (X : Ty_slices_ContainsFunc_api_Table_api_Table) (F : Ent3) : Ent3 := fun a s γ K => match a, s with
  | [dat (sl v_s), AVal.clo (Fn.func 32) [] []], [] => X v_s γ (fun r0 => K ([(dat (Dat.bool r0), Own.none)], []))
  | a, s => F a s γ K
def T_slices_ContainsFunc_api_Table_api_Table (x_slices_IndexFunc_api_Table_api_Table'1 : Ty_slices_IndexFunc_api_Table_api_Table'1) : CallK := (addK noneK 30 (P_slices_IndexFunc_api_Table_api_Table'1 x_slices_IndexFunc_api_Table_api_Table'1 none3))
def L_slices_ContainsFunc_api_Table_api_Table (x_slices_IndexFunc_api_Table_api_Table'1 : Ty_slices_IndexFunc_api_Table_api_Table'1) : LoopK := noneL
def Sp.B_slices_ContainsFunc_api_Table_api_Table (x_slices_IndexFunc_api_Table_api_Table'1 : Ty_slices_IndexFunc_api_Table_api_Table'1) (v_s : List (List Dat)) (γ : Type) (K : Bool → Option γ) : Option γ := x_slices_IndexFunc_api_Table_api_Table'1 v_s γ fun z3 => K (decide (0 ≤ z3))
theorem e_slices_ContainsFunc_api_Table_api_Table (p : Par) (x_slices_IndexFunc_api_Table_api_Table'1 v_s) (γ : Type) (K : List Ent × Sig → Option γ) : evFK (cfg p) (T_slices_ContainsFunc_api_Table_api_Table x_slices_IndexFunc_api_Table_api_Table'1) (L_slices_ContainsFunc_api_Table_api_Table x_slices_IndexFunc_api_Table_api_Table'1) 33 [dat (sl v_s), AVal.clo (Fn.func 32) [] []] [] γ K = Sp.B_slices_ContainsFunc_api_Table_api_Table x_slices_IndexFunc_api_Table_api_Table'1 v_s γ (fun r0 => K ([(dat (Dat.bool r0), Own.none)], [])) := by kernel_rfl
def Sp.slices_ContainsFunc_api_Table_api_Table : Ty_slices_ContainsFunc_api_Table_api_Table := Sp.B_slices_ContainsFunc_api_Table_api_Table Sp.slices_IndexFunc_api_Table_api_Table'1
theorem E_slices_ContainsFunc_api_Table_api_Table (p : Par) {F : Ent3} (hF : EntOk (cfg p) 33 F) : EntOk (cfg p) 33 (P_slices_ContainsFunc_api_Table_api_Table Sp.slices_ContainsFunc_api_Table_api_Table F) := by
  intro a s γ K q h
  unfold P_slices_ContainsFunc_api_Table_api_Table at h
  split at h
  · exact body_ok (tab_call (tab_nil _) (E_slices_IndexFunc_api_Table_api_Table'1 p (ent_none _ _))) rfl ((e_slices_ContainsFunc_api_Table_api_Table p _ _ _ _).trans h)
  · exact hF _ _ _ _ _ h
abbrev Ty_catalog_Check : Type 1 := List (List Dat) → (γ : Type) → (Int → Option γ) → Option γ
def P_catalog_Check (X : Ty_catalog_Check) (F : Ent3) : Ent3 := fun a s γ K => match a, s with
  | [dat (sl v_c)], [] => X v_c γ (fun r0 => K ([(dat (int i64 r0), Own.none)], []))
  | a, s => F a s γ K
def T_catalog_Check (x_slices_ContainsFunc_api_Table_api_Table : Ty_slices_ContainsFunc_api_Table_api_Table) (x_catalog_unlike_api_Table : Ty_catalog_unlike_api_Table) : CallK := (addK (addK noneK 33 (P_slices_ContainsFunc_api_Table_api_Table x_slices_ContainsFunc_api_Table_api_Table none3)) 34 (P_catalog_unlike_api_Table x_catalog_unlike_api_Table none3))
def L_catalog_Check (x_slices_ContainsFunc_api_Table_api_Table : Ty_slices_ContainsFunc_api_Table_api_Table) (x_catalog_unlike_api_Table : Ty_catalog_unlike_api_Table) : LoopK := noneL
def Sp.B_catalog_Check (x_slices_ContainsFunc_api_Table_api_Table : Ty_slices_ContainsFunc_api_Table_api_Table) (x_catalog_unlike_api_Table : Ty_catalog_unlike_api_Table) (v_c : List (List Dat)) (γ : Type) (K : Int → Option γ) : Option γ := bif decide (16 < Int.ofNat (List.length v_c)) then K 130 else x_slices_ContainsFunc_api_Table_api_Table v_c γ fun z3 => bif z3 then K 130 else x_catalog_unlike_api_Table v_c γ fun z4 => bif !z4 then K 130 else K 0
theorem e_catalog_Check (p : Par) (x_slices_ContainsFunc_api_Table_api_Table x_catalog_unlike_api_Table v_c) (γ : Type) (K : List Ent × Sig → Option γ) : evFK (cfg p) (T_catalog_Check x_slices_ContainsFunc_api_Table_api_Table x_catalog_unlike_api_Table) (L_catalog_Check x_slices_ContainsFunc_api_Table_api_Table x_catalog_unlike_api_Table) 13 [dat (sl v_c)] [] γ K = Sp.B_catalog_Check x_slices_ContainsFunc_api_Table_api_Table x_catalog_unlike_api_Table v_c γ (fun r0 => K ([(dat (int i64 r0), Own.none)], [])) := by kernel_rfl
def Sp.catalog_Check : Ty_catalog_Check := Sp.B_catalog_Check Sp.slices_ContainsFunc_api_Table_api_Table Sp.catalog_unlike_api_Table
theorem E_catalog_Check (p : Par) {F : Ent3} (hF : EntOk (cfg p) 13 F) : EntOk (cfg p) 13 (P_catalog_Check Sp.catalog_Check F) := by
  intro a s γ K q h
  unfold P_catalog_Check at h
  split at h
  · exact body_ok (tab_call (tab_call (tab_nil _) (E_slices_ContainsFunc_api_Table_api_Table p (ent_none _ _))) (E_catalog_unlike_api_Table p (ent_none _ _))) rfl ((e_catalog_Check p _ _ _ _ _).trans h)
  · exact hF _ _ _ _ _ h
abbrev Ty_slices_Equal_api_Column_api_Column_L0 : Type 1 := List (List Dat) → List (List Dat) → Int → Bool → Int → (γ : Type) → (Ex → Bool → Int → Option γ) → Option γ
def P_slices_Equal_api_Column_api_Column_L0 (X : Ty_slices_Equal_api_Column_api_Column_L0) (F : Loop3) : Loop3 := fun a s γ K => match a, s with
  | [dat (sl v_s1), dat (sl v_s2), dat (int i64 v_)], ([dat (Dat.bool v__1), dat (int i64 v__2)], []) => X v_s1 v_s2 v_ v__1 v__2 γ (fun e x0 x1 => K (e, ([dat (Dat.bool x0), dat (int i64 x1)], [])))
  | a, s => F a s γ K
def T_slices_Equal_api_Column_api_Column_L0 : CallK := noneK
def L_slices_Equal_api_Column_api_Column_L0 : LoopK := noneL
def Sp.B_slices_Equal_api_Column_api_Column_L0 (x_slices_Equal_api_Column_api_Column_L0 : Ty_slices_Equal_api_Column_api_Column_L0)  (v_s1 v_s2 : List (List Dat)) (v_ : Int) (v__1 : Bool) (v__2 : Int) (γ : Type) (K : Ex → Bool → Int → Option γ) : Option γ := bif decide (v__2 < v_) then elemAt v_s1 v__2 fun z7 => bif List.length z7 == 3 then cellAt z7 0 fun z8 => asStr z8 fun z9 => cellAt z7 1 fun z10 => asStr z10 fun z11 => cellAt z7 2 fun z12 => Aev.asInt i64 z12 fun z13 => elemAt v_s2 v__2 fun z14 => bif List.length z14 == 3 then cellAt z14 0 fun z15 => asStr z15 fun z16 => cellAt z14 1 fun z17 => asStr z17 fun z18 => cellAt z14 2 fun z19 => Aev.asInt i64 z19 fun z20 => bif !(decide (z9 = z16) && (decide (z11 = z18) && (decide (z13 = z20) && true))) then K Ex.ret false v__2 else x_slices_Equal_api_Column_api_Column_L0 v_s1 v_s2 v_ v__1 (IntKind.wrap i64 (v__2 + 1)) γ K else none else none else K (Ex.exit 0) v__1 v__2
theorem e_slices_Equal_api_Column_api_Column_L0 (p : Par) (x_slices_Equal_api_Column_api_Column_L0 : Ty_slices_Equal_api_Column_api_Column_L0) (v_s1 v_s2 v_ v__1 v__2) (γ : Type) (K : Ex × Vars → Option γ) : roundK (cfg p) (T_slices_Equal_api_Column_api_Column_L0) (L_slices_Equal_api_Column_api_Column_L0) 80 0 [dat (sl v_s1), dat (sl v_s2), dat (int i64 v_)] ([dat (Dat.bool v__1), dat (int i64 v__2)], []) γ (contL (fun v => P_slices_Equal_api_Column_api_Column_L0 x_slices_Equal_api_Column_api_Column_L0 noneL3 [dat (sl v_s1), dat (sl v_s2), dat (int i64 v_)] v γ K) K) = Sp.B_slices_Equal_api_Column_api_Column_L0 x_slices_Equal_api_Column_api_Column_L0 v_s1 v_s2 v_ v__1 v__2 γ (fun e x0 x1 => K (e, ([dat (Dat.bool x0), dat (int i64 x1)], []))) := by kernel_rfl
def Sp.slices_Equal_api_Column_api_Column_L0 : Nat → Ty_slices_Equal_api_Column_api_Column_L0
  | 0 => fun _ _ _ _ _ _ _ => none
  | n + 1 => Sp.B_slices_Equal_api_Column_api_Column_L0 (Sp.slices_Equal_api_Column_api_Column_L0 n) 
theorem E0_slices_Equal_api_Column_api_Column_L0 (p : Par)   : ∀ n, EntOkL (cfg p) 80 0 (P_slices_Equal_api_Column_api_Column_L0 (Sp.slices_Equal_api_Column_api_Column_L0 n) noneL3) := entL_rounds (tab_nil _) (by kernel_rfl) (fun c v γ K => by unfold P_slices_Equal_api_Column_api_Column_L0; split <;> rfl) fun n c v γ K q h => by
  unfold P_slices_Equal_api_Column_api_Column_L0 at h
  split at h
  · exact (e_slices_Equal_api_Column_api_Column_L0 p _ _ _ _ _ _ _ _).trans h
  · cases h
theorem E_slices_Equal_api_Column_api_Column_L0 (p : Par)   (n : Nat) {F : Loop3} (hF : EntOkL (cfg p) 80 0 F) : EntOkL (cfg p) 80 0 (P_slices_Equal_api_Column_api_Column_L0 (Sp.slices_Equal_api_Column_api_Column_L0 n) F) := by
  intro c v γ K q h
  unfold P_slices_Equal_api_Column_api_Column_L0 at h
  split at h
  · exact E0_slices_Equal_api_Column_api_Column_L0 p n _ _ _ _ _ h
  · exact hF _ _ _ _ _ h
abbrev Ty_slices_Equal_api_Column_api_Column : Type 1 := List (List Dat) → List (List Dat) → (γ : Type) → (Bool → Option γ) → Option γ
def P_slices_Equal_api_Column_api_Column (X : Ty_slices_Equal_api_Column_api_Column) (F : Ent3) : Ent3 := fun a s γ K => match a, s with
  | [dat (sl v_s1), dat (sl v_s2)], [] => X v_s1 v_s2 γ (fun r0 => K ([(dat (Dat.bool r0), Own.none)], []))
  | a, s => F a s γ K
def T_slices_Equal_api_Column_api_Column (x_slices_Equal_api_Column_api_Column_L0 : Ty_slices_Equal_api_Column_api_Column_L0) : CallK := noneK
def L_slices_Equal_api_Column_api_Column (x_slices_Equal_api_Column_api_Column_L0 : Ty_slices_Equal_api_Column_api_Column_L0) : LoopK := (addL noneL 80 0 (P_slices_Equal_api_Column_api_Column_L0 x_slices_Equal_api_Column_api_Column_L0 noneL3))
def Sp.B_slices_Equal_api_Column_api_Column (x_slices_Equal_api_Column_api_Column_L0 : Ty_slices_Equal_api_Column_api_Column_L0) (v_s1 v_s2 : List (List Dat)) (γ : Type) (K : Bool → Option γ) : Option γ := bif !decide (Int.ofNat (List.length v_s1) = Int.ofNat (List.length v_s2)) then K false else x_slices_Equal_api_Column_api_Column_L0 v_s1 v_s2 (Int.ofNat (List.length v_s1)) false 0 γ fun z4 z5 z6 => bif Ex.isExit z4 0 then K true else bif Ex.isRet z4 then K z5 else none
theorem e_slices_Equal_api_Column_api_Column (p : Par) (x_slices_Equal_api_Column_api_Column_L0 v_s1 v_s2) (γ : Type) (K : List Ent × Sig → Option γ) : evFK (cfg p) (T_slices_Equal_api_Column_api_Column x_slices_Equal_api_Column_api_Column_L0) (L_slices_Equal_api_Column_api_Column x_slices_Equal_api_Column_api_Column_L0) 80 [dat (sl v_s1), dat (sl v_s2)] [] γ K = Sp.B_slices_Equal_api_Column_api_Column x_slices_Equal_api_Column_api_Column_L0 v_s1 v_s2 γ (fun r0 => K ([(dat (Dat.bool r0), Own.none)], [])) := by kernel_rfl
def Sp.slices_Equal_api_Column_api_Column : Ty_slices_Equal_api_Column_api_Column := Sp.B_slices_Equal_api_Column_api_Column (Sp.slices_Equal_api_Column_api_Column_L0 fuel)
theorem E_slices_Equal_api_Column_api_Column (p : Par) {F : Ent3} (hF : EntOk (cfg p) 80 F) : EntOk (cfg p) 80 (P_slices_Equal_api_Column_api_Column Sp.slices_Equal_api_Column_api_Column F) := by
  intro a s γ K q h
  unfold P_slices_Equal_api_Column_api_Column at h
  split at h
  · exact body_ok (tab_loop (tab_nil _) (E_slices_Equal_api_Column_api_Column_L0 p fuel (entL_none _ _ _))) rfl ((e_slices_Equal_api_Column_api_Column p _ _ _ _ _).trans h)
  · exact hF _ _ _ _ _ h
abbrev Ty_row_Sort : Type 1 := List (List Dat) → (γ : Type) → (List (List Dat) → Option γ) → Option γ
def P_row_Sort (X : Ty_row_Sort) (F : Ent3) : Ent3 := fun a s γ K => match a, s with
  | [dat (sl v_l)], [] => X v_l γ (fun x0 => K ([(dat (sl x0), Own.none)], []))
  | a, s => F a s γ K
def Sp.row_Sort : Ty_row_Sort := fun v_l γ K => bif Sp.rowsOk v_l && decide (List.length v_l ≤ 16777216) then K (Sp.sortRows v_l) else none
theorem e_row_Sort (v_l : List (List Dat)) (γ : Type) (K : List Ent × Sig → Option γ) : Go.Aev.sortS [dat (sl v_l)] [] γ K = Sp.row_Sort v_l γ (fun x0 => K ([(dat (sl x0), Own.none)], [])) := by kernel_rfl
theorem E_row_Sort (p : Par) {F : Ent3} (hF : EntOk (cfg p) 82 F) : EntOk (cfg p) 82 (P_row_Sort Sp.row_Sort F) := by
  intro a s γ K q h
  unfold P_row_Sort at h
  split at h
  · exact ent_primS (S := Go.Aev.sortS) rfl Go.Aev.sortS_cps _ _ _ _ _ ((e_row_Sort _ _ _).trans h)
  · exact hF _ _ _ _ _ h
abbrev Ty_slices_Equal_api_Value_api_Value_L0 : Type 1 := List (List Dat) → List (List Dat) → Int → Bool → Int → (γ : Type) → (Ex → Bool → Int → Option γ) → Option γ
def P_slices_Equal_api_Value_api_Value_L0 (X : Ty_slices_Equal_api_Value_api_Value_L0) (F : Loop3) : Loop3 := fun a s γ K => match a, s with
  | [dat (sl v_s1), dat (sl v_s2), dat (int i64 v_)], ([dat (Dat.bool v__1), dat (int i64 v__2)], []) => X v_s1 v_s2 v_ v__1 v__2 γ (fun e x0 x1 => K (e, ([dat (Dat.bool x0), dat (int i64 x1)], [])))
  | a, s => F a s γ K
def T_slices_Equal_api_Value_api_Value_L0 : CallK := noneK
def L_slices_Equal_api_Value_api_Value_L0 : LoopK := noneL
def Sp.B_slices_Equal_api_Value_api_Value_L0 (x_slices_Equal_api_Value_api_Value_L0 : Ty_slices_Equal_api_Value_api_Value_L0)  (v_s1 v_s2 : List (List Dat)) (v_ : Int) (v__1 : Bool) (v__2 : Int) (γ : Type) (K : Ex → Bool → Int → Option γ) : Option γ := bif decide (v__2 < v_) then elemAt v_s1 v__2 fun z7 => bif List.length z7 == 3 then cellAt z7 0 fun z8 => Aev.asInt i64 z8 fun z9 => cellAt z7 1 fun z10 => Aev.asInt i64 z10 fun z11 => cellAt z7 2 fun z12 => asStr z12 fun z13 => elemAt v_s2 v__2 fun z14 => bif List.length z14 == 3 then cellAt z14 0 fun z15 => Aev.asInt i64 z15 fun z16 => cellAt z14 1 fun z17 => Aev.asInt i64 z17 fun z18 => cellAt z14 2 fun z19 => asStr z19 fun z20 => bif !(decide (z9 = z16) && (decide (z11 = z18) && (decide (z13 = z20) && true))) then K Ex.ret false v__2 else x_slices_Equal_api_Value_api_Value_L0 v_s1 v_s2 v_ v__1 (IntKind.wrap i64 (v__2 + 1)) γ K else none else none else K (Ex.exit 0) v__1 v__2
theorem e_slices_Equal_api_Value_api_Value_L0 (p : Par) (x_slices_Equal_api_Value_api_Value_L0 : Ty_slices_Equal_api_Value_api_Value_L0) (v_s1 v_s2 v_ v__1 v__2) (γ : Type) (K : Ex × Vars → Option γ) : roundK (cfg p) (T_slices_Equal_api_Value_api_Value_L0) (L_slices_Equal_api_Value_api_Value_L0) 99 0 [dat (sl v_s1), dat (sl v_s2), dat (int i64 v_)] ([dat (Dat.bool v__1), dat (int i64 v__2)], []) γ (contL (fun v => P_slices_Equal_api_Value_api_Value_L0 x_slices_Equal_api_Value_api_Value_L0 noneL3 [dat (sl v_s1), dat (sl v_s2), dat (int i64 v_)] v γ K) K) = Sp.B_slices_Equal_api_Value_api_Value_L0 x_slices_Equal_api_Value_api_Value_L0 v_s1 v_s2 v_ v__1 v__2 γ (fun e x0 x1 => K (e, ([dat (Dat.bool x0), dat (int i64 x1)], []))) := by kernel_rfl
def Sp.slices_Equal_api_Value_api_Value_L0 : Nat → Ty_slices_Equal_api_Value_api_Value_L0
  | 0 => fun _ _ _ _ _ _ _ => none
  | n + 1 => Sp.B_slices_Equal_api_Value_api_Value_L0 (Sp.slices_Equal_api_Value_api_Value_L0 n) 
theorem E0_slices_Equal_api_Value_api_Value_L0 (p : Par)   : ∀ n, EntOkL (cfg p) 99 0 (P_slices_Equal_api_Value_api_Value_L0 (Sp.slices_Equal_api_Value_api_Value_L0 n) noneL3) := entL_rounds (tab_nil _) (by kernel_rfl) (fun c v γ K => by unfold P_slices_Equal_api_Value_api_Value_L0; split <;> rfl) fun n c v γ K q h => by
  unfold P_slices_Equal_api_Value_api_Value_L0 at h
  split at h
  · exact (e_slices_Equal_api_Value_api_Value_L0 p _ _ _ _ _ _ _ _).trans h
  · cases h
theorem E_slices_Equal_api_Value_api_Value_L0 (p : Par)   (n : Nat) {F : Loop3} (hF : EntOkL (cfg p) 99 0 F) : EntOkL (cfg p) 99 0 (P_slices_Equal_api_Value_api_Value_L0 (Sp.slices_Equal_api_Value_api_Value_L0 n) F) := by
  intro c v γ K q h
  unfold P_slices_Equal_api_Value_api_Value_L0 at h
  split at h
  · exact E0_slices_Equal_api_Value_api_Value_L0 p n _ _ _ _ _ h
  · exact hF _ _ _ _ _ h
abbrev Ty_slices_Equal_api_Value_api_Value : Type 1 := List (List Dat) → List (List Dat) → (γ : Type) → (Bool → Option γ) → Option γ
def P_slices_Equal_api_Value_api_Value (X : Ty_slices_Equal_api_Value_api_Value) (F : Ent3) : Ent3 := fun a s γ K => match a, s with
  | [dat (sl v_s1), dat (sl v_s2)], [] => X v_s1 v_s2 γ (fun r0 => K ([(dat (Dat.bool r0), Own.none)], []))
  | a, s => F a s γ K
def T_slices_Equal_api_Value_api_Value (x_slices_Equal_api_Value_api_Value_L0 : Ty_slices_Equal_api_Value_api_Value_L0) : CallK := noneK
def L_slices_Equal_api_Value_api_Value (x_slices_Equal_api_Value_api_Value_L0 : Ty_slices_Equal_api_Value_api_Value_L0) : LoopK := (addL noneL 99 0 (P_slices_Equal_api_Value_api_Value_L0 x_slices_Equal_api_Value_api_Value_L0 noneL3))
def Sp.B_slices_Equal_api_Value_api_Value (x_slices_Equal_api_Value_api_Value_L0 : Ty_slices_Equal_api_Value_api_Value_L0) (v_s1 v_s2 : List (List Dat)) (γ : Type) (K : Bool → Option γ) : Option γ := bif !decide (Int.ofNat (List.length v_s1) = Int.ofNat (List.length v_s2)) then K false else x_slices_Equal_api_Value_api_Value_L0 v_s1 v_s2 (Int.ofNat (List.length v_s1)) false 0 γ fun z4 z5 z6 => bif Ex.isExit z4 0 then K true else bif Ex.isRet z4 then K z5 else none
theorem e_slices_Equal_api_Value_api_Value (p : Par) (x_slices_Equal_api_Value_api_Value_L0 v_s1 v_s2) (γ : Type) (K : List Ent × Sig → Option γ) : evFK (cfg p) (T_slices_Equal_api_Value_api_Value x_slices_Equal_api_Value_api_Value_L0) (L_slices_Equal_api_Value_api_Value x_slices_Equal_api_Value_api_Value_L0) 99 [dat (sl v_s1), dat (sl v_s2)] [] γ K = Sp.B_slices_Equal_api_Value_api_Value x_slices_Equal_api_Value_api_Value_L0 v_s1 v_s2 γ (fun r0 => K ([(dat (Dat.bool r0), Own.none)], [])) := by kernel_rfl
def Sp.slices_Equal_api_Value_api_Value : Ty_slices_Equal_api_Value_api_Value := Sp.B_slices_Equal_api_Value_api_Value (Sp.slices_Equal_api_Value_api_Value_L0 fuel)
theorem E_slices_Equal_api_Value_api_Value (p : Par) {F : Ent3} (hF : EntOk (cfg p) 99 F) : EntOk (cfg p) 99 (P_slices_Equal_api_Value_api_Value Sp.slices_Equal_api_Value_api_Value F) := by
  intro a s γ K q h
  unfold P_slices_Equal_api_Value_api_Value at h
  split at h
  · exact body_ok (tab_loop (tab_nil _) (E_slices_Equal_api_Value_api_Value_L0 p fuel (entL_none _ _ _))) rfl ((e_slices_Equal_api_Value_api_Value p _ _ _ _ _).trans h)
  · exact hF _ _ _ _ _ h
abbrev Ty_row_Same : Type 1 := List (List Dat) → List (List Dat) → (γ : Type) → (Bool → Option γ) → Option γ
def P_row_Same (X : Ty_row_Same) (F : Ent3) : Ent3 := fun a s γ K => match a, s with
  | [dat (sl v_a), dat (sl v_b)], [] => X v_a v_b γ (fun r0 => K ([(dat (Dat.bool r0), Own.none)], []))
  | a, s => F a s γ K
def T_row_Same (x_slices_Equal_api_Value_api_Value : Ty_slices_Equal_api_Value_api_Value) : CallK := (addK noneK 99 (P_slices_Equal_api_Value_api_Value x_slices_Equal_api_Value_api_Value none3))
def L_row_Same (x_slices_Equal_api_Value_api_Value : Ty_slices_Equal_api_Value_api_Value) : LoopK := noneL
def Sp.B_row_Same (x_slices_Equal_api_Value_api_Value : Ty_slices_Equal_api_Value_api_Value) (v_a v_b : List (List Dat)) (γ : Type) (K : Bool → Option γ) : Option γ := x_slices_Equal_api_Value_api_Value v_a v_b γ fun z4 => K z4
theorem e_row_Same (p : Par) (x_slices_Equal_api_Value_api_Value v_a v_b) (γ : Type) (K : List Ent × Sig → Option γ) : evFK (cfg p) (T_row_Same x_slices_Equal_api_Value_api_Value) (L_row_Same x_slices_Equal_api_Value_api_Value) 83 [dat (sl v_a), dat (sl v_b)] [] γ K = Sp.B_row_Same x_slices_Equal_api_Value_api_Value v_a v_b γ (fun r0 => K ([(dat (Dat.bool r0), Own.none)], [])) := by kernel_rfl
def Sp.row_Same : Ty_row_Same := Sp.B_row_Same Sp.slices_Equal_api_Value_api_Value
theorem E_row_Same (p : Par) {F : Ent3} (hF : EntOk (cfg p) 83 F) : EntOk (cfg p) 83 (P_row_Same Sp.row_Same F) := by
  intro a s γ K q h
  unfold P_row_Same at h
  split at h
  · exact body_ok (tab_call (tab_nil _) (E_slices_Equal_api_Value_api_Value p (ent_none _ _))) rfl ((e_row_Same p _ _ _ _ _).trans h)
  · exact hF _ _ _ _ _ h
abbrev Ty_slices_EqualFunc_api_Value_api_Value_api_Value_api_Value_L0 : Type 1 := List (List Dat) → List (List Dat) → Int → Bool → Int → (γ : Type) → (Ex → Bool → Int → Option γ) → Option γ
def P_slices_EqualFunc_api_Value_api_Value_api_Value_api_Value_L0 (X : Ty_slices_EqualFunc_api_Value_api_Value_api_Value_api_Value_L0) (F : Loop3) : Loop3 := fun a s γ K => match a, s with
  | [dat (sl v_s2), AVal.clo (Fn.func 83) [] [], dat (sl v_), dat (int i64 v__1)], ([dat (Dat.bool v__2), dat (int i64 v__3)], []) => X v_s2 v_ v__1 v__2 v__3 γ (fun e x0 x1 => K (e, ([dat (Dat.bool x0), dat (int i64 x1)], [])))
  | a, s => F a s γ K
def T_slices_EqualFunc_api_Value_api_Value_api_Value_api_Value_L0 (x_row_Same : Ty_row_Same) : CallK := (addK noneK 83 (P_row_Same x_row_Same none3))
def L_slices_EqualFunc_api_Value_api_Value_api_Value_api_Value_L0 (x_row_Same : Ty_row_Same) : LoopK := noneL
def Sp.B_slices_EqualFunc_api_Value_api_Value_api_Value_api_Value_L0 (x_slices_EqualFunc_api_Value_api_Value_api_Value_api_Value_L0 : Ty_slices_EqualFunc_api_Value_api_Value_api_Value_api_Value_L0) (x_row_Same : Ty_row_Same) (v_s2 v_ : List (List Dat)) (v__1 : Int) (v__2 : Bool) (v__3 : Int) (γ : Type) (K : Ex → Bool → Int → Option γ) : Option γ := bif decide (v__3 < v__1) then elemAt v_ v__3 fun z7 => bif List.length z7 == 1 then cellAt z7 0 fun z8 => asSl z8 fun z9 => elemAt v_s2 v__3 fun z10 => bif List.length z10 == 1 then cellAt z10 0 fun z11 => asSl z11 fun z12 => x_row_Same z9 z12 γ fun z13 => bif !z13 then K Ex.ret false v__3 else x_slices_EqualFunc_api_Value_api_Value_api_Value_api_Value_L0 v_s2 v_ v__1 v__2 (IntKind.wrap i64 (v__3 + 1)) γ K else none else none else K (Ex.exit 0) v__2 v__3
theorem e_slices_EqualFunc_api_Value_api_Value_api_Value_api_Value_L0 (p : Par) (x_slices_EqualFunc_api_Value_api_Value_api_Value_api_Value_L0 : Ty_slices_EqualFunc_api_Value_api_Value_api_Value_api_Value_L0) (x_row_Same v_s2 v_ v__1 v__2 v__3) (γ : Type) (K : Ex × Vars → Option γ) : roundK (cfg p) (T_slices_EqualFunc_api_Value_api_Value_api_Value_api_Value_L0 x_row_Same) (L_slices_EqualFunc_api_Value_api_Value_api_Value_api_Value_L0 x_row_Same) 81 0 [dat (sl v_s2), AVal.clo (Fn.func 83) [] [], dat (sl v_), dat (int i64 v__1)] ([dat (Dat.bool v__2), dat (int i64 v__3)], []) γ (contL (fun v => P_slices_EqualFunc_api_Value_api_Value_api_Value_api_Value_L0 x_slices_EqualFunc_api_Value_api_Value_api_Value_api_Value_L0 noneL3 [dat (sl v_s2), AVal.clo (Fn.func 83) [] [], dat (sl v_), dat (int i64 v__1)] v γ K) K) = Sp.B_slices_EqualFunc_api_Value_api_Value_api_Value_api_Value_L0 x_slices_EqualFunc_api_Value_api_Value_api_Value_api_Value_L0 x_row_Same v_s2 v_ v__1 v__2 v__3 γ (fun e x0 x1 => K (e, ([dat (Dat.bool x0), dat (int i64 x1)], []))) := by kernel_rfl
def Sp.slices_EqualFunc_api_Value_api_Value_api_Value_api_Value_L0 : Nat → Ty_slices_EqualFunc_api_Value_api_Value_api_Value_api_Value_L0
  | 0 => fun _ _ _ _ _ _ _ => none
  | n + 1 => Sp.B_slices_EqualFunc_api_Value_api_Value_api_Value_api_Value_L0 (Sp.slices_EqualFunc_api_Value_api_Value_api_Value_api_Value_L0 n) Sp.row_Same
theorem E0_slices_EqualFunc_api_Value_api_Value_api_Value_api_Value_L0 (p : Par)   : ∀ n, EntOkL (cfg p) 81 0 (P_slices_EqualFunc_api_Value_api_Value_api_Value_api_Value_L0 (Sp.slices_EqualFunc_api_Value_api_Value_api_Value_api_Value_L0 n) noneL3) := entL_rounds (tab_call (tab_nil _) (E_row_Same p (ent_none _ _))) (by kernel_rfl) (fun c v γ K => by unfold P_slices_EqualFunc_api_Value_api_Value_api_Value_api_Value_L0; split <;> rfl) fun n c v γ K q h => by
  unfold P_slices_EqualFunc_api_Value_api_Value_api_Value_api_Value_L0 at h
  split at h
  · exact (e_slices_EqualFunc_api_Value_api_Value_api_Value_api_Value_L0 p _ _ _ _ _ _ _ _ _).trans h
  · cases h
theorem E_slices_EqualFunc_api_Value_api_Value_api_Value_api_Value_L0 (p : Par)   (n : Nat) {F : Loop3} (hF : EntOkL (cfg p) 81 0 F) : EntOkL (cfg p) 81 0 (P_slices_EqualFunc_api_Value_api_Value_api_Value_api_Value_L0 (Sp.slices_EqualFunc_api_Value_api_Value_api_Value_api_Value_L0 n) F) := by
  intro c v γ K q h
  unfold P_slices_EqualFunc_api_Value_api_Value_api_Value_api_Value_L0 at h
  split at h
  · exact E0_slices_EqualFunc_api_Value_api_Value_api_Value_api_Value_L0 p n _ _ _ _ _ h
  · exact hF _ _ _ _ _ h
abbrev Ty_slices_EqualFunc_api_Value_api_Value_api_Value_api_Value : Type 1 := List (List Dat) → List (List Dat) → (γ : Type) → (Bool → Option γ) → Option γ
def P_slices_EqualFunc_api_Value_api_Value_api_Value_api_Value (X : Ty_slices_EqualFunc_api_Value_api_Value_api_Value_api_Value) (F : Ent3) : Ent3 := fun a s γ K => match a, s with
  | [dat (sl v_s1), dat (sl v_s2), AVal.clo (Fn.func 83) [] []], [] => X v_s1 v_s2 γ (fun r0 => K ([(dat (Dat.bool r0), Own.none)], []))
  | a, s => F a s γ K
def T_slices_EqualFunc_api_Value_api_Value_api_Value_api_Value (x_slices_EqualFunc_api_Value_api_Value_api_Value_api_Value_L0 : Ty_slices_EqualFunc_api_Value_api_Value_api_Value_api_Value_L0) : CallK := noneK
def L_slices_EqualFunc_api_Value_api_Value_api_Value_api_Value (x_slices_EqualFunc_api_Value_api_Value_api_Value_api_Value_L0 : Ty_slices_EqualFunc_api_Value_api_Value_api_Value_api_Value_L0) : LoopK := (addL noneL 81 0 (P_slices_EqualFunc_api_Value_api_Value_api_Value_api_Value_L0 x_slices_EqualFunc_api_Value_api_Value_api_Value_api_Value_L0 noneL3))
def Sp.B_slices_EqualFunc_api_Value_api_Value_api_Value_api_Value (x_slices_EqualFunc_api_Value_api_Value_api_Value_api_Value_L0 : Ty_slices_EqualFunc_api_Value_api_Value_api_Value_api_Value_L0) (v_s1 v_s2 : List (List Dat)) (γ : Type) (K : Bool → Option γ) : Option γ := bif !decide (Int.ofNat (List.length v_s1) = Int.ofNat (List.length v_s2)) then K false else x_slices_EqualFunc_api_Value_api_Value_api_Value_api_Value_L0 v_s2 v_s1 (Int.ofNat (List.length v_s1)) false 0 γ fun z4 z5 z6 => bif Ex.isExit z4 0 then K true else bif Ex.isRet z4 then K z5 else none
theorem e_slices_EqualFunc_api_Value_api_Value_api_Value_api_Value (p : Par) (x_slices_EqualFunc_api_Value_api_Value_api_Value_api_Value_L0 v_s1 v_s2) (γ : Type) (K : List Ent × Sig → Option γ) : evFK (cfg p) (T_slices_EqualFunc_api_Value_api_Value_api_Value_api_Value x_slices_EqualFunc_api_Value_api_Value_api_Value_api_Value_L0) (L_slices_EqualFunc_api_Value_api_Value_api_Value_api_Value x_slices_EqualFunc_api_Value_api_Value_api_Value_api_Value_L0) 81 [dat (sl v_s1), dat (sl v_s2), AVal.clo (Fn.func 83) [] []] [] γ K = Sp.B_slices_EqualFunc_api_Value_api_Value_api_Value_api_Value x_slices_EqualFunc_api_Value_api_Value_api_Value_api_Value_L0 v_s1 v_s2 γ (fun r0 => K ([(dat (Dat.bool r0), Own.none)], [])) := by kernel_rfl
def Sp.slices_EqualFunc_api_Value_api_Value_api_Value_api_Value : Ty_slices_EqualFunc_api_Value_api_Value_api_Value_api_Value := Sp.B_slices_EqualFunc_api_Value_api_Value_api_Value_api_Value (Sp.slices_EqualFunc_api_Value_api_Value_api_Value_api_Value_L0 fuel)
theorem E_slices_EqualFunc_api_Value_api_Value_api_Value_api_Value (p : Par) {F : Ent3} (hF : EntOk (cfg p) 81 F) : EntOk (cfg p) 81 (P_slices_EqualFunc_api_Value_api_Value_api_Value_api_Value Sp.slices_EqualFunc_api_Value_api_Value_api_Value_api_Value F) := by
  intro a s γ K q h
  unfold P_slices_EqualFunc_api_Value_api_Value_api_Value_api_Value at h
  split at h
  · exact body_ok (tab_loop (tab_nil _) (E_slices_EqualFunc_api_Value_api_Value_api_Value_api_Value_L0 p fuel (entL_none _ _ _))) rfl ((e_slices_EqualFunc_api_Value_api_Value_api_Value_api_Value p _ _ _ _ _).trans h)
  · exact hF _ _ _ _ _ h
abbrev Ty_catalog_same : Type 1 := ByteArray → List (List Dat) → List (List Dat) → ByteArray → List (List Dat) → List (List Dat) → (γ : Type) → (Bool → Option γ) → Option γ
def P_catalog_same (X : Ty_catalog_same) (F : Ent3) : Ent3 := fun a s γ K => match a, s with
  | [agg [(str v_a0, Own.none), (sl v_a1, Own.none), (sl v_a2, Own.none)], agg [(str v_b0, Own.none), (sl v_b1, Own.none), (sl v_b2, Own.none)]], [] => X v_a0 v_a1 v_a2 v_b0 v_b1 v_b2 γ (fun r0 => K ([(dat (Dat.bool r0), Own.none)], []))
  | a, s => F a s γ K
def T_catalog_same (x_slices_Equal_api_Column_api_Column : Ty_slices_Equal_api_Column_api_Column) (x_row_Sort : Ty_row_Sort) (x_slices_EqualFunc_api_Value_api_Value_api_Value_api_Value : Ty_slices_EqualFunc_api_Value_api_Value_api_Value_api_Value) : CallK := (addK (addK (addK noneK 80 (P_slices_Equal_api_Column_api_Column x_slices_Equal_api_Column_api_Column none3)) 82 (P_row_Sort x_row_Sort none3)) 81 (P_slices_EqualFunc_api_Value_api_Value_api_Value_api_Value x_slices_EqualFunc_api_Value_api_Value_api_Value_api_Value none3))
def L_catalog_same (x_slices_Equal_api_Column_api_Column : Ty_slices_Equal_api_Column_api_Column) (x_row_Sort : Ty_row_Sort) (x_slices_EqualFunc_api_Value_api_Value_api_Value_api_Value : Ty_slices_EqualFunc_api_Value_api_Value_api_Value_api_Value) : LoopK := noneL
def Sp.B_catalog_same (x_slices_Equal_api_Column_api_Column : Ty_slices_Equal_api_Column_api_Column) (x_row_Sort : Ty_row_Sort) (x_slices_EqualFunc_api_Value_api_Value_api_Value_api_Value : Ty_slices_EqualFunc_api_Value_api_Value_api_Value_api_Value) (v_a0 : ByteArray) (v_a1 v_a2 : List (List Dat)) (v_b0 : ByteArray) (v_b1 v_b2 : List (List Dat)) (γ : Type) (K : Bool → Option γ) : Option γ := bif decide (v_a0 = v_b0) then x_slices_Equal_api_Column_api_Column v_a1 v_b1 γ fun z8 => bif z8 then x_row_Sort v_a2 γ fun z9 => x_row_Sort v_b2 γ fun z10 => x_slices_EqualFunc_api_Value_api_Value_api_Value_api_Value z9 z10 γ fun z11 => K z11 else K false else K false
theorem e_catalog_same (p : Par) (x_slices_Equal_api_Column_api_Column x_row_Sort x_slices_EqualFunc_api_Value_api_Value_api_Value_api_Value v_a0 v_a1 v_a2 v_b0 v_b1 v_b2) (γ : Type) (K : List Ent × Sig → Option γ) : evFK (cfg p) (T_catalog_same x_slices_Equal_api_Column_api_Column x_row_Sort x_slices_EqualFunc_api_Value_api_Value_api_Value_api_Value) (L_catalog_same x_slices_Equal_api_Column_api_Column x_row_Sort x_slices_EqualFunc_api_Value_api_Value_api_Value_api_Value) 54 [agg [(str v_a0, Own.none), (sl v_a1, Own.none), (sl v_a2, Own.none)], agg [(str v_b0, Own.none), (sl v_b1, Own.none), (sl v_b2, Own.none)]] [] γ K = Sp.B_catalog_same x_slices_Equal_api_Column_api_Column x_row_Sort x_slices_EqualFunc_api_Value_api_Value_api_Value_api_Value v_a0 v_a1 v_a2 v_b0 v_b1 v_b2 γ (fun r0 => K ([(dat (Dat.bool r0), Own.none)], [])) := by kernel_rfl
def Sp.catalog_same : Ty_catalog_same := Sp.B_catalog_same Sp.slices_Equal_api_Column_api_Column Sp.row_Sort Sp.slices_EqualFunc_api_Value_api_Value_api_Value_api_Value
theorem E_catalog_same (p : Par) {F : Ent3} (hF : EntOk (cfg p) 54 F) : EntOk (cfg p) 54 (P_catalog_same Sp.catalog_same F) := by
  intro a s γ K q h
  unfold P_catalog_same at h
  split at h
  · exact body_ok (tab_call (tab_call (tab_call (tab_nil _) (E_slices_Equal_api_Column_api_Column p (ent_none _ _))) (E_row_Sort p (ent_none _ _))) (E_slices_EqualFunc_api_Value_api_Value_api_Value_api_Value p (ent_none _ _))) rfl ((e_catalog_same p _ _ _ _ _ _ _ _ _ _ _).trans h)
  · exact hF _ _ _ _ _ h
end
end Go.Proofs.YtimdilbcijgadaaGreatDoor

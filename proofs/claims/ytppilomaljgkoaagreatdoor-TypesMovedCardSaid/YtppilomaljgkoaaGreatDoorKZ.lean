/- What the functions of this program compute, printed by a program. -/
import Derived.Test.YtppilomaljgkoaaGreatDoorK2
import Derived.KernelRfl
set_option linter.unusedVariables false
namespace Go.Proofs.YtppilomaljgkoaaGreatDoor.Z
open Go Go.Aev Go.RowKit
noncomputable section
abbrev Ty_value_Check : Type 1 := Int → Int → ByteArray → (γ : Type) → (Int → Option γ) → Option γ
def P_value_Check (X : Ty_value_Check) (F : Ent3) : Ent3 := fun a s γ K => match a, s with
  | [AVal.agg [(Dat.int IntKind.i64 v_v0, Own.none), (Dat.int IntKind.i64 v_v1, Own.none), (Dat.str v_v2, Own.none)]], [] => X v_v0 v_v1 v_v2 γ (fun r0 => K ([(AVal.dat (Dat.int IntKind.i64 r0), Own.none)], []))
  | a, s => F a s γ K
def T_value_Check  : CallK := noneK
def L_value_Check  : LoopK := noneL
def Sp.B_value_Check  (v_v0 : Int) (v_v1 : Int) (v_v2 : ByteArray) (γ : Type) (K : Int → Option γ) : Option γ := bif decide (v_v0 = 0) then bif !(decide (v_v0 = 0) && (decide (v_v1 = 0) && (decide (v_v2 = bs []) && true))) then K 10 else K 0 else bif decide (v_v0 = 1) then bif decide (Int.fdiv v_v1 2 = 0) then bif !decide (v_v2 = bs []) then K 10 else K 0 else K 10 else bif decide (v_v0 = 2) then bif decide (-9007199254740991 ≤ v_v1) then bif decide (v_v1 ≤ 9007199254740991) then bif !decide (v_v2 = bs []) then K 10 else K 0 else K 10 else K 10 else bif decide (v_v0 = 3) then bif decide (v_v1 = 0) then bif !decide (Int.ofNat (ByteArray.size v_v2) ≤ 64) then K 10 else K 0 else K 10 else K 10
theorem e_value_Check (p : Par)  (v_v0 : Int) (v_v1 : Int) (v_v2 : ByteArray) (γ : Type) (K : List Ent × Sig → Option γ) : evFK (cfgZ p) (T_value_Check ) (L_value_Check ) 102 [AVal.agg [(Dat.int IntKind.i64 v_v0, Own.none), (Dat.int IntKind.i64 v_v1, Own.none), (Dat.str v_v2, Own.none)]] [] γ K = Sp.B_value_Check  v_v0 v_v1 v_v2 γ (fun r0 => K ([(AVal.dat (Dat.int IntKind.i64 r0), Own.none)], [])) := by kernel_rfl
def Sp.value_Check : Ty_value_Check := Sp.B_value_Check 
theorem E_value_Check (p : Par) {F : Ent3} (hF : EntOk (cfgZ p) 102 F) : EntOk (cfgZ p) 102 (P_value_Check Sp.value_Check F) := by
  intro a s γ K q h
  unfold P_value_Check at h
  split at h
  · exact body_ok (tab_nil _) rfl ((e_value_Check p  _ _ _ _ _).trans h)
  · exact hF _ _ _ _ _ h
abbrev Ty_expr_literal : Type 1 := Int → Int → Int → Int → ByteArray → ByteArray → ByteArray → List (List Dat) → (γ : Type) → (Bool → Option γ) → Option γ
def P_expr_literal (X : Ty_expr_literal) (F : Ent3) : Ent3 := fun a s γ K => match a, s with
  | [AVal.agg [(Dat.int IntKind.i64 v_e0, Own.none), (Dat.int IntKind.i64 v_e1, Own.none), (Dat.int IntKind.i64 v_e2, Own.none), (Dat.int IntKind.i64 v_e3, Own.none), (Dat.str v_e4, Own.none), (Dat.str v_e5, Own.none), (Dat.str v_e6, Own.none), (Dat.sl v_e7, Own.none)]], [] => X v_e0 v_e1 v_e2 v_e3 v_e4 v_e5 v_e6 v_e7 γ (fun r0 => K ([(AVal.dat (Dat.bool r0), Own.none)], []))
  | a, s => F a s γ K
def T_expr_literal (x_value_Check : Ty_value_Check) : CallK := (addK noneK 102 (P_value_Check x_value_Check none3))
def L_expr_literal (x_value_Check : Ty_value_Check) : LoopK := noneL
def Sp.B_expr_literal (x_value_Check : Ty_value_Check) (v_e0 : Int) (v_e1 : Int) (v_e2 : Int) (v_e3 : Int) (v_e4 : ByteArray) (v_e5 : ByteArray) (v_e6 : ByteArray) (v_e7 : List (List Dat)) (γ : Type) (K : Bool → Option γ) : Option γ := x_value_Check v_e2 v_e3 v_e4 γ fun (z10 : Int) => bif decide (z10 = 0) then bif !decide (v_e2 = 2) then bif decide (v_e1 = 0) then bif decide (v_e5 = bs []) then bif decide (v_e6 = bs []) then K (decide (Int.ofNat (List.length v_e7) = 0)) else K false else K false else K false else bif decide (0 ≤ v_e3) then bif decide (v_e1 = 0) then bif decide (v_e5 = bs []) then bif decide (v_e6 = bs []) then K (decide (Int.ofNat (List.length v_e7) = 0)) else K false else K false else K false else K false else K false
theorem e_expr_literal (p : Par) (x_value_Check : Ty_value_Check) (v_e0 : Int) (v_e1 : Int) (v_e2 : Int) (v_e3 : Int) (v_e4 : ByteArray) (v_e5 : ByteArray) (v_e6 : ByteArray) (v_e7 : List (List Dat)) (γ : Type) (K : List Ent × Sig → Option γ) : evFK (cfgZ p) (T_expr_literal x_value_Check) (L_expr_literal x_value_Check) 94 [AVal.agg [(Dat.int IntKind.i64 v_e0, Own.none), (Dat.int IntKind.i64 v_e1, Own.none), (Dat.int IntKind.i64 v_e2, Own.none), (Dat.int IntKind.i64 v_e3, Own.none), (Dat.str v_e4, Own.none), (Dat.str v_e5, Own.none), (Dat.str v_e6, Own.none), (Dat.sl v_e7, Own.none)]] [] γ K = Sp.B_expr_literal x_value_Check v_e0 v_e1 v_e2 v_e3 v_e4 v_e5 v_e6 v_e7 γ (fun r0 => K ([(AVal.dat (Dat.bool r0), Own.none)], [])) := by kernel_rfl
def Sp.expr_literal : Ty_expr_literal := Sp.B_expr_literal Sp.value_Check
theorem E_expr_literal (p : Par) {F : Ent3} (hF : EntOk (cfgZ p) 94 F) : EntOk (cfgZ p) 94 (P_expr_literal Sp.expr_literal F) := by
  intro a s γ K q h
  unfold P_expr_literal at h
  split at h
  · exact body_ok (tab_call (tab_nil _) (E_value_Check p (ent_none _ _))) rfl ((e_expr_literal p _ _ _ _ _ _ _ _ _ _ _).trans h)
  · exact hF _ _ _ _ _ h
abbrev Ty_lex_letter : Type 1 := Int → (γ : Type) → (Bool → Option γ) → Option γ
def P_lex_letter (X : Ty_lex_letter) (F : Ent3) : Ent3 := fun a s γ K => match a, s with
  | [AVal.dat (Dat.int IntKind.u8 v_c)], [] => X v_c γ (fun r0 => K ([(AVal.dat (Dat.bool r0), Own.none)], []))
  | a, s => F a s γ K
def T_lex_letter  : CallK := noneK
def L_lex_letter  : LoopK := noneL
def Sp.B_lex_letter  (v_c : Int) (γ : Type) (K : Bool → Option γ) : Option γ := bif decide (97 ≤ IntKind.wrap IntKind.u8 (Int.ofNat (BitVec.toFin (BitVec.ofInt (IntKind.bits IntKind.u8) v_c ||| BitVec.ofInt (IntKind.bits IntKind.u8) 32)).1)) then bif decide (IntKind.wrap IntKind.u8 (Int.ofNat (BitVec.toFin (BitVec.ofInt (IntKind.bits IntKind.u8) v_c ||| BitVec.ofInt (IntKind.bits IntKind.u8) 32)).1) ≤ 122) then K true else K (decide (v_c = 95)) else K (decide (v_c = 95))
theorem e_lex_letter (p : Par)  (v_c : Int) (γ : Type) (K : List Ent × Sig → Option γ) : evFK (cfgZ p) (T_lex_letter ) (L_lex_letter ) 104 [AVal.dat (Dat.int IntKind.u8 v_c)] [] γ K = Sp.B_lex_letter  v_c γ (fun r0 => K ([(AVal.dat (Dat.bool r0), Own.none)], [])) := by kernel_rfl
def Sp.lex_letter : Ty_lex_letter := Sp.B_lex_letter 
theorem E_lex_letter (p : Par) {F : Ent3} (hF : EntOk (cfgZ p) 104 F) : EntOk (cfgZ p) 104 (P_lex_letter Sp.lex_letter F) := by
  intro a s γ K q h
  unfold P_lex_letter at h
  split at h
  · exact body_ok (tab_nil _) rfl ((e_lex_letter p  _ _ _).trans h)
  · exact hF _ _ _ _ _ h
abbrev Ty_lex_scanner_left : Type 1 := ByteArray → Int → (γ : Type) → (Bool → ByteArray → Int → Option γ) → Option γ
def P_lex_scanner_left (X : Ty_lex_scanner_left) (F : Ent3) : Ent3 := fun a s γ K => match a, s with
  | [AVal.ref 0 0], [Box.cells [AVal.dat (Dat.str b0), AVal.dat (Dat.int IntKind.i64 b1)]] => X b0 b1 γ (fun r0 r1 r2 => K ([(AVal.dat (Dat.bool r0), Own.none)], [Box.cells [AVal.dat (Dat.str r1), AVal.dat (Dat.int IntKind.i64 r2)]]))
  | a, s => F a s γ K
def T_lex_scanner_left  : CallK := noneK
def L_lex_scanner_left  : LoopK := noneL
def Sp.B_lex_scanner_left  (b0 : ByteArray) (b1 : Int) (γ : Type) (K : Bool → ByteArray → Int → Option γ) : Option γ := K (decide (b1 < Int.ofNat (ByteArray.size b0))) b0 b1
theorem e_lex_scanner_left (p : Par)  (b0 : ByteArray) (b1 : Int) (γ : Type) (K : List Ent × Sig → Option γ) : evFK (cfgZ p) (T_lex_scanner_left ) (L_lex_scanner_left ) 107 [AVal.ref 0 0] [Box.cells [AVal.dat (Dat.str b0), AVal.dat (Dat.int IntKind.i64 b1)]] γ K = Sp.B_lex_scanner_left  b0 b1 γ (fun r0 r1 r2 => K ([(AVal.dat (Dat.bool r0), Own.none)], [Box.cells [AVal.dat (Dat.str r1), AVal.dat (Dat.int IntKind.i64 r2)]])) := by kernel_rfl
def Sp.lex_scanner_left : Ty_lex_scanner_left := Sp.B_lex_scanner_left 
theorem E_lex_scanner_left (p : Par) {F : Ent3} (hF : EntOk (cfgZ p) 107 F) : EntOk (cfgZ p) 107 (P_lex_scanner_left Sp.lex_scanner_left F) := by
  intro a s γ K q h
  unfold P_lex_scanner_left at h
  split at h
  · exact body_ok (tab_nil _) rfl ((e_lex_scanner_left p  _ _ _ _).trans h)
  · exact hF _ _ _ _ _ h
abbrev Ty_lex_digit : Type 1 := Int → (γ : Type) → (Bool → Option γ) → Option γ
def P_lex_digit (X : Ty_lex_digit) (F : Ent3) : Ent3 := fun a s γ K => match a, s with
  | [AVal.dat (Dat.int IntKind.u8 v_c)], [] => X v_c γ (fun r0 => K ([(AVal.dat (Dat.bool r0), Own.none)], []))
  | a, s => F a s γ K
def T_lex_digit  : CallK := noneK
def L_lex_digit  : LoopK := noneL
def Sp.B_lex_digit  (v_c : Int) (γ : Type) (K : Bool → Option γ) : Option γ := bif decide (48 ≤ v_c) then K (decide (v_c ≤ 57)) else K false
theorem e_lex_digit (p : Par)  (v_c : Int) (γ : Type) (K : List Ent × Sig → Option γ) : evFK (cfgZ p) (T_lex_digit ) (L_lex_digit ) 108 [AVal.dat (Dat.int IntKind.u8 v_c)] [] γ K = Sp.B_lex_digit  v_c γ (fun r0 => K ([(AVal.dat (Dat.bool r0), Own.none)], [])) := by kernel_rfl
def Sp.lex_digit : Ty_lex_digit := Sp.B_lex_digit 
theorem E_lex_digit (p : Par) {F : Ent3} (hF : EntOk (cfgZ p) 108 F) : EntOk (cfgZ p) 108 (P_lex_digit Sp.lex_digit F) := by
  intro a s γ K q h
  unfold P_lex_digit at h
  split at h
  · exact body_ok (tab_nil _) rfl ((e_lex_digit p  _ _ _).trans h)
  · exact hF _ _ _ _ _ h
abbrev Ty_lex_scanner_run_L0 : Type 1 := Int → ByteArray → Int → (γ : Type) → (Ex → ByteArray → Int → Option γ) → Option γ
def P_lex_scanner_run_L0 (X : Ty_lex_scanner_run_L0) (F : Loop3) : Loop3 := fun a s γ K => match a, s with
  | [AVal.ref 0 0, AVal.dat (Dat.int IntKind.i64 v_from)], ([], [Box.cells [AVal.dat (Dat.str b0), AVal.dat (Dat.int IntKind.i64 b1)]]) => X v_from b0 b1 γ (fun e x0 x1 => K (e, ([], [Box.cells [AVal.dat (Dat.str x0), AVal.dat (Dat.int IntKind.i64 x1)]])))
  | a, s => F a s γ K
def T_lex_scanner_run_L0 (x_lex_scanner_left : Ty_lex_scanner_left) (x_lex_letter : Ty_lex_letter) (x_lex_digit : Ty_lex_digit) : CallK := (addK (addK (addK noneK 107 (P_lex_scanner_left x_lex_scanner_left none3)) 104 (P_lex_letter x_lex_letter none3)) 108 (P_lex_digit x_lex_digit none3))
def L_lex_scanner_run_L0 (x_lex_scanner_left : Ty_lex_scanner_left) (x_lex_letter : Ty_lex_letter) (x_lex_digit : Ty_lex_digit) : LoopK := noneL
def Sp.B_lex_scanner_run_L0 (x_lex_scanner_run_L0 : Ty_lex_scanner_run_L0) (x_lex_scanner_left : Ty_lex_scanner_left) (x_lex_letter : Ty_lex_letter) (x_lex_digit : Ty_lex_digit) (v_from : Int) (b0 : ByteArray) (b1 : Int) (γ : Type) (K : Ex → ByteArray → Int → Option γ) : Option γ := x_lex_scanner_left b0 b1 γ fun (z5 : Bool) (z6 : ByteArray) (z7 : Int) => bif z5 then byteAt z6 z7 fun (z8 : UInt8) => x_lex_letter (Int.ofNat (BitVec.toFin (UInt8.toBitVec z8)).1) γ fun (z9 : Bool) => bif z9 then x_lex_scanner_run_L0 v_from z6 (IntKind.wrap IntKind.i64 (z7 + 1)) γ K else byteAt z6 z7 fun (z10 : UInt8) => x_lex_digit (Int.ofNat (BitVec.toFin (UInt8.toBitVec z10)).1) γ fun (z11 : Bool) => bif z11 then x_lex_scanner_run_L0 v_from z6 (IntKind.wrap IntKind.i64 (z7 + 1)) γ K else K (Ex.exit 0) z6 z7 else K (Ex.exit 0) z6 z7
theorem e_lex_scanner_run_L0 (p : Par) (x_lex_scanner_run_L0 : Ty_lex_scanner_run_L0) (x_lex_scanner_left : Ty_lex_scanner_left) (x_lex_letter : Ty_lex_letter) (x_lex_digit : Ty_lex_digit) (v_from : Int) (b0 : ByteArray) (b1 : Int) (γ : Type) (K : Ex × Vars → Option γ) : roundK (cfgZ p) (T_lex_scanner_run_L0 x_lex_scanner_left x_lex_letter x_lex_digit) (L_lex_scanner_run_L0 x_lex_scanner_left x_lex_letter x_lex_digit) 105 0 [AVal.ref 0 0, AVal.dat (Dat.int IntKind.i64 v_from)] ([], [Box.cells [AVal.dat (Dat.str b0), AVal.dat (Dat.int IntKind.i64 b1)]]) γ (contL (fun v => P_lex_scanner_run_L0 x_lex_scanner_run_L0 noneL3 [AVal.ref 0 0, AVal.dat (Dat.int IntKind.i64 v_from)] v γ K) K) = Sp.B_lex_scanner_run_L0 x_lex_scanner_run_L0 x_lex_scanner_left x_lex_letter x_lex_digit v_from b0 b1 γ (fun e x0 x1 => K (e, ([], [Box.cells [AVal.dat (Dat.str x0), AVal.dat (Dat.int IntKind.i64 x1)]]))) := by kernel_rfl
def Sp.lex_scanner_run_L0 : Nat → Ty_lex_scanner_run_L0
  | 0 => fun _ _ _ _ _ => none
  | n + 1 => Sp.B_lex_scanner_run_L0 (Sp.lex_scanner_run_L0 n) Sp.lex_scanner_left Sp.lex_letter Sp.lex_digit
theorem E0_lex_scanner_run_L0 (p : Par)   : ∀ n, EntOkL (cfgZ p) 105 0 (P_lex_scanner_run_L0 (Sp.lex_scanner_run_L0  n) noneL3) := entL_rounds (tab_call (tab_call (tab_call (tab_nil _) (E_lex_scanner_left p (ent_none _ _))) (E_lex_letter p (ent_none _ _))) (E_lex_digit p (ent_none _ _))) (by kernel_rfl) (fun c v γ K => by unfold P_lex_scanner_run_L0; split <;> rfl) fun n c v γ K q h => by
  unfold P_lex_scanner_run_L0 at h
  split at h
  · exact (e_lex_scanner_run_L0 p _ _ _ _ _ _ _ _ _).trans h
  · cases h
theorem E_lex_scanner_run_L0 (p : Par)   (n : Nat) {F : Loop3} (hF : EntOkL (cfgZ p) 105 0 F) : EntOkL (cfgZ p) 105 0 (P_lex_scanner_run_L0 (Sp.lex_scanner_run_L0  n) F) := by
  intro c v γ K q h
  unfold P_lex_scanner_run_L0 at h
  split at h
  · exact E0_lex_scanner_run_L0 p   n _ _ _ _ _ h
  · exact hF _ _ _ _ _ h
abbrev Ty_lex_scanner_run : Type 1 := ByteArray → Int → (γ : Type) → (ByteArray → ByteArray → Int → Option γ) → Option γ
def P_lex_scanner_run (X : Ty_lex_scanner_run) (F : Ent3) : Ent3 := fun a s γ K => match a, s with
  | [AVal.ref 0 0], [Box.cells [AVal.dat (Dat.str b0), AVal.dat (Dat.int IntKind.i64 b1)]] => X b0 b1 γ (fun r0 r1 r2 => K ([(AVal.dat (Dat.str r0), Own.none)], [Box.cells [AVal.dat (Dat.str r1), AVal.dat (Dat.int IntKind.i64 r2)]]))
  | a, s => F a s γ K
def T_lex_scanner_run (x_lex_scanner_run_L0 : Ty_lex_scanner_run_L0) : CallK := noneK
def L_lex_scanner_run (x_lex_scanner_run_L0 : Ty_lex_scanner_run_L0) : LoopK := (addL noneL 105 0 (P_lex_scanner_run_L0 x_lex_scanner_run_L0 noneL3))
def Sp.B_lex_scanner_run (x_lex_scanner_run_L0 : Ty_lex_scanner_run_L0) (b0 : ByteArray) (b1 : Int) (γ : Type) (K : ByteArray → ByteArray → Int → Option γ) : Option γ := x_lex_scanner_run_L0 b1 b0 b1 γ fun (z4 : Ex) (z5 : ByteArray) (z6 : Int) => bif Ex.isExit z4 0 then bif decide (0 ≤ b1) && decide (b1 ≤ z6) && decide (z6 ≤ Int.ofNat (ByteArray.size z5)) && true then K (ByteArray.extract z5 (Int.toNat b1) (Int.toNat z6)) z5 z6 else none else bif Ex.isRet z4 then none else none
theorem e_lex_scanner_run (p : Par) (x_lex_scanner_run_L0 : Ty_lex_scanner_run_L0) (b0 : ByteArray) (b1 : Int) (γ : Type) (K : List Ent × Sig → Option γ) : evFK (cfgZ p) (T_lex_scanner_run x_lex_scanner_run_L0) (L_lex_scanner_run x_lex_scanner_run_L0) 105 [AVal.ref 0 0] [Box.cells [AVal.dat (Dat.str b0), AVal.dat (Dat.int IntKind.i64 b1)]] γ K = Sp.B_lex_scanner_run x_lex_scanner_run_L0 b0 b1 γ (fun r0 r1 r2 => K ([(AVal.dat (Dat.str r0), Own.none)], [Box.cells [AVal.dat (Dat.str r1), AVal.dat (Dat.int IntKind.i64 r2)]])) := by kernel_rfl
def Sp.lex_scanner_run : Ty_lex_scanner_run := Sp.B_lex_scanner_run (Sp.lex_scanner_run_L0 fuel)
theorem E_lex_scanner_run (p : Par) {F : Ent3} (hF : EntOk (cfgZ p) 105 F) : EntOk (cfgZ p) 105 (P_lex_scanner_run Sp.lex_scanner_run F) := by
  intro a s γ K q h
  unfold P_lex_scanner_run at h
  split at h
  · exact body_ok (tab_loop (tab_nil _) (E_lex_scanner_run_L0 p fuel (entL_none _ _ _))) rfl ((e_lex_scanner_run p _ _ _ _ _).trans h)
  · exact hF _ _ _ _ _ h
abbrev Ty_lex_Keys : Type 1 := (γ : Type) → (List (List Dat) → Option γ) → Option γ
def P_lex_Keys (X : Ty_lex_Keys) (F : Ent3) : Ent3 := fun a s γ K => match a, s with
  | [], [] => X  γ (fun r0 => K ([(AVal.dat (Dat.sl r0), Own.none)], []))
  | a, s => F a s γ K
def T_lex_Keys (x_strings_Split : Ty_strings_Split) : CallK := (addK noneK 112 (P_strings_Split x_strings_Split none3))
def L_lex_Keys (x_strings_Split : Ty_strings_Split) : LoopK := noneL
def Sp.B_lex_Keys (x_strings_Split : Ty_strings_Split)  (γ : Type) (K : List (List Dat) → Option γ) : Option γ := x_strings_Split (bs [65, 76, 76, 32, 65, 78, 68, 32, 65, 78, 84, 73, 32, 65, 83, 32, 66, 89, 32, 67, 79, 85, 78, 84, 32, 68, 69, 83, 67, 32, 68, 73, 83, 84, 73, 78, 67, 84, 32, 70, 65, 76, 83, 69, 32, 70, 82, 79, 77, 32, 71, 82, 79, 85, 80, 32, 73, 83, 32, 74, 79, 73, 78, 32, 76, 69, 70, 84, 32, 76, 73, 77, 73, 84, 32, 77, 65, 88, 32, 77, 73, 78, 32, 78, 79, 84, 32, 78, 85, 76, 76, 32, 79, 78, 32, 79, 82, 32, 79, 82, 68, 69, 82, 32, 83, 69, 76, 69, 67, 84, 32, 83, 69, 77, 73, 32, 83, 85, 77, 32, 84, 82, 85, 69, 32, 85, 78, 73, 79, 78, 32, 87, 72, 69, 82, 69]) (bs [32]) γ fun (z2 : List (List Dat)) => K z2
theorem e_lex_Keys (p : Par) (x_strings_Split : Ty_strings_Split)  (γ : Type) (K : List Ent × Sig → Option γ) : evFK (cfgZ p) (T_lex_Keys x_strings_Split) (L_lex_Keys x_strings_Split) 110 [] [] γ K = Sp.B_lex_Keys x_strings_Split  γ (fun r0 => K ([(AVal.dat (Dat.sl r0), Own.none)], [])) := by kernel_rfl
def Sp.lex_Keys : Ty_lex_Keys := Sp.B_lex_Keys Sp.strings_Split
theorem E_lex_Keys (p : Par) {F : Ent3} (hF : EntOk (cfgZ p) 110 F) : EntOk (cfgZ p) 110 (P_lex_Keys Sp.lex_Keys F) := by
  intro a s γ K q h
  unfold P_lex_Keys at h
  split at h
  · exact body_ok (tab_call (tab_nil _) (E_strings_Split p (ent_none _ _))) rfl ((e_lex_Keys p _ _ _ ).trans h)
  · exact hF _ _ _ _ _ h
abbrev Ty_slices_Index_string_string_L0 : Type 1 := List (List Dat) → ByteArray → Int → Int → Int → (γ : Type) → (Ex → Int → Int → Option γ) → Option γ
def P_slices_Index_string_string_L0 (X : Ty_slices_Index_string_string_L0) (F : Loop3) : Loop3 := fun a s γ K => match a, s with
  | [AVal.dat (Dat.sl v_s), AVal.dat (Dat.str v_v), AVal.dat (Dat.int IntKind.i64 v_)], ([AVal.dat (Dat.int IntKind.i64 v__1), AVal.dat (Dat.int IntKind.i64 v__2)], []) => X v_s v_v v_ v__1 v__2 γ (fun e x0 x1 => K (e, ([AVal.dat (Dat.int IntKind.i64 x0), AVal.dat (Dat.int IntKind.i64 x1)], [])))
  | a, s => F a s γ K
def T_slices_Index_string_string_L0  : CallK := noneK
def L_slices_Index_string_string_L0  : LoopK := noneL
def Sp.B_slices_Index_string_string_L0 (x_slices_Index_string_string_L0 : Ty_slices_Index_string_string_L0)  (v_s : List (List Dat)) (v_v : ByteArray) (v_ : Int) (v__1 : Int) (v__2 : Int) (γ : Type) (K : Ex → Int → Int → Option γ) : Option γ := bif decide (v__2 < v_) then elemAt v_s v__2 fun (z7 : List Dat) => bif List.length z7 == 1 then cellAt z7 0 fun (z8 : Dat) => asStr z8 fun (z9 : ByteArray) => bif decide (v_v = z9) then K Ex.ret v__2 v__2 else x_slices_Index_string_string_L0 v_s v_v v_ v__1 (IntKind.wrap IntKind.i64 (v__2 + 1)) γ K else none else K (Ex.exit 0) v__1 v__2
theorem e_slices_Index_string_string_L0 (p : Par) (x_slices_Index_string_string_L0 : Ty_slices_Index_string_string_L0)  (v_s : List (List Dat)) (v_v : ByteArray) (v_ : Int) (v__1 : Int) (v__2 : Int) (γ : Type) (K : Ex × Vars → Option γ) : roundK (cfgZ p) (T_slices_Index_string_string_L0 ) (L_slices_Index_string_string_L0 ) 111 0 [AVal.dat (Dat.sl v_s), AVal.dat (Dat.str v_v), AVal.dat (Dat.int IntKind.i64 v_)] ([AVal.dat (Dat.int IntKind.i64 v__1), AVal.dat (Dat.int IntKind.i64 v__2)], []) γ (contL (fun v => P_slices_Index_string_string_L0 x_slices_Index_string_string_L0 noneL3 [AVal.dat (Dat.sl v_s), AVal.dat (Dat.str v_v), AVal.dat (Dat.int IntKind.i64 v_)] v γ K) K) = Sp.B_slices_Index_string_string_L0 x_slices_Index_string_string_L0  v_s v_v v_ v__1 v__2 γ (fun e x0 x1 => K (e, ([AVal.dat (Dat.int IntKind.i64 x0), AVal.dat (Dat.int IntKind.i64 x1)], []))) := by kernel_rfl
def Sp.slices_Index_string_string_L0 : Nat → Ty_slices_Index_string_string_L0
  | 0 => fun _ _ _ _ _ _ _ => none
  | n + 1 => Sp.B_slices_Index_string_string_L0 (Sp.slices_Index_string_string_L0 n) 
theorem E0_slices_Index_string_string_L0 (p : Par)   : ∀ n, EntOkL (cfgZ p) 111 0 (P_slices_Index_string_string_L0 (Sp.slices_Index_string_string_L0  n) noneL3) := entL_rounds (tab_nil _) (by kernel_rfl) (fun c v γ K => by unfold P_slices_Index_string_string_L0; split <;> rfl) fun n c v γ K q h => by
  unfold P_slices_Index_string_string_L0 at h
  split at h
  · exact (e_slices_Index_string_string_L0 p _  _ _ _ _ _ _ _).trans h
  · cases h
theorem E_slices_Index_string_string_L0 (p : Par)   (n : Nat) {F : Loop3} (hF : EntOkL (cfgZ p) 111 0 F) : EntOkL (cfgZ p) 111 0 (P_slices_Index_string_string_L0 (Sp.slices_Index_string_string_L0  n) F) := by
  intro c v γ K q h
  unfold P_slices_Index_string_string_L0 at h
  split at h
  · exact E0_slices_Index_string_string_L0 p   n _ _ _ _ _ h
  · exact hF _ _ _ _ _ h
abbrev Ty_slices_Index_string_string : Type 1 := List (List Dat) → ByteArray → (γ : Type) → (Int → Option γ) → Option γ
def P_slices_Index_string_string (X : Ty_slices_Index_string_string) (F : Ent3) : Ent3 := fun a s γ K => match a, s with
  | [AVal.dat (Dat.sl v_s), AVal.dat (Dat.str v_v)], [] => X v_s v_v γ (fun r0 => K ([(AVal.dat (Dat.int IntKind.i64 r0), Own.none)], []))
  | a, s => F a s γ K
def T_slices_Index_string_string (x_slices_Index_string_string_L0 : Ty_slices_Index_string_string_L0) : CallK := noneK
def L_slices_Index_string_string (x_slices_Index_string_string_L0 : Ty_slices_Index_string_string_L0) : LoopK := (addL noneL 111 0 (P_slices_Index_string_string_L0 x_slices_Index_string_string_L0 noneL3))
def Sp.B_slices_Index_string_string (x_slices_Index_string_string_L0 : Ty_slices_Index_string_string_L0) (v_s : List (List Dat)) (v_v : ByteArray) (γ : Type) (K : Int → Option γ) : Option γ := x_slices_Index_string_string_L0 v_s v_v (Int.ofNat (List.length v_s)) 0 0 γ fun (z4 : Ex) (z5 z6 : Int) => bif Ex.isExit z4 0 then K (-1) else bif Ex.isRet z4 then K z5 else none
theorem e_slices_Index_string_string (p : Par) (x_slices_Index_string_string_L0 : Ty_slices_Index_string_string_L0) (v_s : List (List Dat)) (v_v : ByteArray) (γ : Type) (K : List Ent × Sig → Option γ) : evFK (cfgZ p) (T_slices_Index_string_string x_slices_Index_string_string_L0) (L_slices_Index_string_string x_slices_Index_string_string_L0) 111 [AVal.dat (Dat.sl v_s), AVal.dat (Dat.str v_v)] [] γ K = Sp.B_slices_Index_string_string x_slices_Index_string_string_L0 v_s v_v γ (fun r0 => K ([(AVal.dat (Dat.int IntKind.i64 r0), Own.none)], [])) := by kernel_rfl
def Sp.slices_Index_string_string : Ty_slices_Index_string_string := Sp.B_slices_Index_string_string (Sp.slices_Index_string_string_L0 fuel)
theorem E_slices_Index_string_string (p : Par) {F : Ent3} (hF : EntOk (cfgZ p) 111 F) : EntOk (cfgZ p) 111 (P_slices_Index_string_string Sp.slices_Index_string_string F) := by
  intro a s γ K q h
  unfold P_slices_Index_string_string at h
  split at h
  · exact body_ok (tab_loop (tab_nil _) (E_slices_Index_string_string_L0 p fuel (entL_none _ _ _))) rfl ((e_slices_Index_string_string p _ _ _ _ _).trans h)
  · exact hF _ _ _ _ _ h
abbrev Ty_slices_Contains_string_string : Type 1 := List (List Dat) → ByteArray → (γ : Type) → (Bool → Option γ) → Option γ
def P_slices_Contains_string_string (X : Ty_slices_Contains_string_string) (F : Ent3) : Ent3 := fun a s γ K => match a, s with
  | [AVal.dat (Dat.sl v_s), AVal.dat (Dat.str v_v)], [] => X v_s v_v γ (fun r0 => K ([(AVal.dat (Dat.bool r0), Own.none)], []))
  | a, s => F a s γ K
def T_slices_Contains_string_string (x_slices_Index_string_string : Ty_slices_Index_string_string) : CallK := (addK noneK 111 (P_slices_Index_string_string x_slices_Index_string_string none3))
def L_slices_Contains_string_string (x_slices_Index_string_string : Ty_slices_Index_string_string) : LoopK := noneL
def Sp.B_slices_Contains_string_string (x_slices_Index_string_string : Ty_slices_Index_string_string) (v_s : List (List Dat)) (v_v : ByteArray) (γ : Type) (K : Bool → Option γ) : Option γ := x_slices_Index_string_string v_s v_v γ fun (z4 : Int) => K (decide (0 ≤ z4))
theorem e_slices_Contains_string_string (p : Par) (x_slices_Index_string_string : Ty_slices_Index_string_string) (v_s : List (List Dat)) (v_v : ByteArray) (γ : Type) (K : List Ent × Sig → Option γ) : evFK (cfgZ p) (T_slices_Contains_string_string x_slices_Index_string_string) (L_slices_Contains_string_string x_slices_Index_string_string) 109 [AVal.dat (Dat.sl v_s), AVal.dat (Dat.str v_v)] [] γ K = Sp.B_slices_Contains_string_string x_slices_Index_string_string v_s v_v γ (fun r0 => K ([(AVal.dat (Dat.bool r0), Own.none)], [])) := by kernel_rfl
def Sp.slices_Contains_string_string : Ty_slices_Contains_string_string := Sp.B_slices_Contains_string_string Sp.slices_Index_string_string
theorem E_slices_Contains_string_string (p : Par) {F : Ent3} (hF : EntOk (cfgZ p) 109 F) : EntOk (cfgZ p) 109 (P_slices_Contains_string_string Sp.slices_Contains_string_string F) := by
  intro a s γ K q h
  unfold P_slices_Contains_string_string at h
  split at h
  · exact body_ok (tab_call (tab_nil _) (E_slices_Index_string_string p (ent_none _ _))) rfl ((e_slices_Contains_string_string p _ _ _ _ _).trans h)
  · exact hF _ _ _ _ _ h
abbrev Ty_lex_Key : Type 1 := ByteArray → (γ : Type) → (Bool → Option γ) → Option γ
def P_lex_Key (X : Ty_lex_Key) (F : Ent3) : Ent3 := fun a s γ K => match a, s with
  | [AVal.dat (Dat.str v_word)], [] => X v_word γ (fun r0 => K ([(AVal.dat (Dat.bool r0), Own.none)], []))
  | a, s => F a s γ K
def T_lex_Key (x_lex_Keys : Ty_lex_Keys) (x_slices_Contains_string_string : Ty_slices_Contains_string_string) : CallK := (addK (addK noneK 110 (P_lex_Keys x_lex_Keys none3)) 109 (P_slices_Contains_string_string x_slices_Contains_string_string none3))
def L_lex_Key (x_lex_Keys : Ty_lex_Keys) (x_slices_Contains_string_string : Ty_slices_Contains_string_string) : LoopK := noneL
def Sp.B_lex_Key (x_lex_Keys : Ty_lex_Keys) (x_slices_Contains_string_string : Ty_slices_Contains_string_string) (v_word : ByteArray) (γ : Type) (K : Bool → Option γ) : Option γ := x_lex_Keys γ fun (z3 : List (List Dat)) => x_slices_Contains_string_string z3 v_word γ fun (z4 : Bool) => K z4
theorem e_lex_Key (p : Par) (x_lex_Keys : Ty_lex_Keys) (x_slices_Contains_string_string : Ty_slices_Contains_string_string) (v_word : ByteArray) (γ : Type) (K : List Ent × Sig → Option γ) : evFK (cfgZ p) (T_lex_Key x_lex_Keys x_slices_Contains_string_string) (L_lex_Key x_lex_Keys x_slices_Contains_string_string) 106 [AVal.dat (Dat.str v_word)] [] γ K = Sp.B_lex_Key x_lex_Keys x_slices_Contains_string_string v_word γ (fun r0 => K ([(AVal.dat (Dat.bool r0), Own.none)], [])) := by kernel_rfl
def Sp.lex_Key : Ty_lex_Key := Sp.B_lex_Key Sp.lex_Keys Sp.slices_Contains_string_string
theorem E_lex_Key (p : Par) {F : Ent3} (hF : EntOk (cfgZ p) 106 F) : EntOk (cfgZ p) 106 (P_lex_Key Sp.lex_Key F) := by
  intro a s γ K q h
  unfold P_lex_Key at h
  split at h
  · exact body_ok (tab_call (tab_call (tab_nil _) (E_lex_Keys p (ent_none _ _))) (E_slices_Contains_string_string p (ent_none _ _))) rfl ((e_lex_Key p _ _ _ _ _).trans h)
  · exact hF _ _ _ _ _ h
abbrev Ty_lex_Name : Type 1 := ByteArray → (γ : Type) → (Bool → Option γ) → Option γ
def P_lex_Name (X : Ty_lex_Name) (F : Ent3) : Ent3 := fun a s γ K => match a, s with
  | [AVal.dat (Dat.str v_s)], [] => X v_s γ (fun r0 => K ([(AVal.dat (Dat.bool r0), Own.none)], []))
  | a, s => F a s γ K
def T_lex_Name (x_lex_letter : Ty_lex_letter) (x_lex_scanner_run : Ty_lex_scanner_run) (x_lex_Key : Ty_lex_Key) : CallK := (addK (addK (addK noneK 104 (P_lex_letter x_lex_letter none3)) 105 (P_lex_scanner_run x_lex_scanner_run none3)) 106 (P_lex_Key x_lex_Key none3))
def L_lex_Name (x_lex_letter : Ty_lex_letter) (x_lex_scanner_run : Ty_lex_scanner_run) (x_lex_Key : Ty_lex_Key) : LoopK := noneL
def Sp.B_lex_Name (x_lex_letter : Ty_lex_letter) (x_lex_scanner_run : Ty_lex_scanner_run) (x_lex_Key : Ty_lex_Key) (v_s : ByteArray) (γ : Type) (K : Bool → Option γ) : Option γ := bif decide (v_s = bs []) then K false else byteAt v_s 0 fun (z3 : UInt8) => x_lex_letter (Int.ofNat (BitVec.toFin (UInt8.toBitVec z3)).1) γ fun (z4 : Bool) => bif !z4 then K false else x_lex_scanner_run v_s 0 γ fun (z5 z6 : ByteArray) (z7 : Int) => bif decide (z5 = v_s) then bif decide (Int.ofNat (ByteArray.size v_s) ≤ 24) then x_lex_Key v_s γ fun (z8 : Bool) => K !z8 else K false else K false
theorem e_lex_Name (p : Par) (x_lex_letter : Ty_lex_letter) (x_lex_scanner_run : Ty_lex_scanner_run) (x_lex_Key : Ty_lex_Key) (v_s : ByteArray) (γ : Type) (K : List Ent × Sig → Option γ) : evFK (cfgZ p) (T_lex_Name x_lex_letter x_lex_scanner_run x_lex_Key) (L_lex_Name x_lex_letter x_lex_scanner_run x_lex_Key) 103 [AVal.dat (Dat.str v_s)] [] γ K = Sp.B_lex_Name x_lex_letter x_lex_scanner_run x_lex_Key v_s γ (fun r0 => K ([(AVal.dat (Dat.bool r0), Own.none)], [])) := by kernel_rfl
def Sp.lex_Name : Ty_lex_Name := Sp.B_lex_Name Sp.lex_letter Sp.lex_scanner_run Sp.lex_Key
theorem E_lex_Name (p : Par) {F : Ent3} (hF : EntOk (cfgZ p) 103 F) : EntOk (cfgZ p) 103 (P_lex_Name Sp.lex_Name F) := by
  intro a s γ K q h
  unfold P_lex_Name at h
  split at h
  · exact body_ok (tab_call (tab_call (tab_call (tab_nil _) (E_lex_letter p (ent_none _ _))) (E_lex_scanner_run p (ent_none _ _))) (E_lex_Key p (ent_none _ _))) rfl ((e_lex_Name p _ _ _ _ _ _).trans h)
  · exact hF _ _ _ _ _ h
abbrev Ty_expr_column : Type 1 := Int → Int → Int → Int → ByteArray → ByteArray → ByteArray → List (List Dat) → (γ : Type) → (Bool → Option γ) → Option γ
def P_expr_column (X : Ty_expr_column) (F : Ent3) : Ent3 := fun a s γ K => match a, s with
  | [AVal.agg [(Dat.int IntKind.i64 v_e0, Own.none), (Dat.int IntKind.i64 v_e1, Own.none), (Dat.int IntKind.i64 v_e2, Own.none), (Dat.int IntKind.i64 v_e3, Own.none), (Dat.str v_e4, Own.none), (Dat.str v_e5, Own.none), (Dat.str v_e6, Own.none), (Dat.sl v_e7, Own.none)]], [] => X v_e0 v_e1 v_e2 v_e3 v_e4 v_e5 v_e6 v_e7 γ (fun r0 => K ([(AVal.dat (Dat.bool r0), Own.none)], []))
  | a, s => F a s γ K
def T_expr_column (x_lex_Name : Ty_lex_Name) : CallK := (addK noneK 103 (P_lex_Name x_lex_Name none3))
def L_expr_column (x_lex_Name : Ty_lex_Name) : LoopK := noneL
def Sp.B_expr_column (x_lex_Name : Ty_lex_Name) (v_e0 : Int) (v_e1 : Int) (v_e2 : Int) (v_e3 : Int) (v_e4 : ByteArray) (v_e5 : ByteArray) (v_e6 : ByteArray) (v_e7 : List (List Dat)) (γ : Type) (K : Bool → Option γ) : Option γ := x_lex_Name v_e6 γ fun (z10 : Bool) => bif z10 then bif decide (v_e5 = bs []) then bif decide (0 ≤ v_e1) then bif decide (v_e1 < 32) then bif decide (v_e2 = 0) && (decide (v_e3 = 0) && (decide (v_e4 = bs []) && true)) then K (decide (Int.ofNat (List.length v_e7) = 0)) else K false else K false else K false else x_lex_Name v_e5 γ fun (z11 : Bool) => bif z11 then bif decide (0 ≤ v_e1) then bif decide (v_e1 < 32) then bif decide (v_e2 = 0) && (decide (v_e3 = 0) && (decide (v_e4 = bs []) && true)) then K (decide (Int.ofNat (List.length v_e7) = 0)) else K false else K false else K false else K false else K false
theorem e_expr_column (p : Par) (x_lex_Name : Ty_lex_Name) (v_e0 : Int) (v_e1 : Int) (v_e2 : Int) (v_e3 : Int) (v_e4 : ByteArray) (v_e5 : ByteArray) (v_e6 : ByteArray) (v_e7 : List (List Dat)) (γ : Type) (K : List Ent × Sig → Option γ) : evFK (cfgZ p) (T_expr_column x_lex_Name) (L_expr_column x_lex_Name) 95 [AVal.agg [(Dat.int IntKind.i64 v_e0, Own.none), (Dat.int IntKind.i64 v_e1, Own.none), (Dat.int IntKind.i64 v_e2, Own.none), (Dat.int IntKind.i64 v_e3, Own.none), (Dat.str v_e4, Own.none), (Dat.str v_e5, Own.none), (Dat.str v_e6, Own.none), (Dat.sl v_e7, Own.none)]] [] γ K = Sp.B_expr_column x_lex_Name v_e0 v_e1 v_e2 v_e3 v_e4 v_e5 v_e6 v_e7 γ (fun r0 => K ([(AVal.dat (Dat.bool r0), Own.none)], [])) := by kernel_rfl
def Sp.expr_column : Ty_expr_column := Sp.B_expr_column Sp.lex_Name
theorem E_expr_column (p : Par) {F : Ent3} (hF : EntOk (cfgZ p) 95 F) : EntOk (cfgZ p) 95 (P_expr_column Sp.expr_column F) := by
  intro a s γ K q h
  unfold P_expr_column at h
  split at h
  · exact body_ok (tab_call (tab_nil _) (E_lex_Name p (ent_none _ _))) rfl ((e_expr_column p _ _ _ _ _ _ _ _ _ _ _).trans h)
  · exact hF _ _ _ _ _ h
abbrev Ty_expr_bare : Type 1 := Int → Int → Int → Int → ByteArray → ByteArray → ByteArray → List (List Dat) → (γ : Type) → (Bool → Option γ) → Option γ
def P_expr_bare (X : Ty_expr_bare) (F : Ent3) : Ent3 := fun a s γ K => match a, s with
  | [AVal.agg [(Dat.int IntKind.i64 v_e0, Own.none), (Dat.int IntKind.i64 v_e1, Own.none), (Dat.int IntKind.i64 v_e2, Own.none), (Dat.int IntKind.i64 v_e3, Own.none), (Dat.str v_e4, Own.none), (Dat.str v_e5, Own.none), (Dat.str v_e6, Own.none), (Dat.sl v_e7, Own.none)]], [] => X v_e0 v_e1 v_e2 v_e3 v_e4 v_e5 v_e6 v_e7 γ (fun r0 => K ([(AVal.dat (Dat.bool r0), Own.none)], []))
  | a, s => F a s γ K
def T_expr_bare  : CallK := noneK
def L_expr_bare  : LoopK := noneL
def Sp.B_expr_bare  (v_e0 : Int) (v_e1 : Int) (v_e2 : Int) (v_e3 : Int) (v_e4 : ByteArray) (v_e5 : ByteArray) (v_e6 : ByteArray) (v_e7 : List (List Dat)) (γ : Type) (K : Bool → Option γ) : Option γ := bif decide (v_e2 = 0) && (decide (v_e3 = 0) && (decide (v_e4 = bs []) && true)) then bif decide (v_e5 = bs []) then K (decide (v_e6 = bs [])) else K false else K false
theorem e_expr_bare (p : Par)  (v_e0 : Int) (v_e1 : Int) (v_e2 : Int) (v_e3 : Int) (v_e4 : ByteArray) (v_e5 : ByteArray) (v_e6 : ByteArray) (v_e7 : List (List Dat)) (γ : Type) (K : List Ent × Sig → Option γ) : evFK (cfgZ p) (T_expr_bare ) (L_expr_bare ) 96 [AVal.agg [(Dat.int IntKind.i64 v_e0, Own.none), (Dat.int IntKind.i64 v_e1, Own.none), (Dat.int IntKind.i64 v_e2, Own.none), (Dat.int IntKind.i64 v_e3, Own.none), (Dat.str v_e4, Own.none), (Dat.str v_e5, Own.none), (Dat.str v_e6, Own.none), (Dat.sl v_e7, Own.none)]] [] γ K = Sp.B_expr_bare  v_e0 v_e1 v_e2 v_e3 v_e4 v_e5 v_e6 v_e7 γ (fun r0 => K ([(AVal.dat (Dat.bool r0), Own.none)], [])) := by kernel_rfl
def Sp.expr_bare : Ty_expr_bare := Sp.B_expr_bare 
theorem E_expr_bare (p : Par) {F : Ent3} (hF : EntOk (cfgZ p) 96 F) : EntOk (cfgZ p) 96 (P_expr_bare Sp.expr_bare F) := by
  intro a s γ K q h
  unfold P_expr_bare at h
  split at h
  · exact body_ok (tab_nil _) rfl ((e_expr_bare p  _ _ _ _ _ _ _ _ _ _).trans h)
  · exact hF _ _ _ _ _ h
abbrev Ty_expr_Arity : Type 1 := Int → (γ : Type) → (Int → Option γ) → Option γ
def P_expr_Arity (X : Ty_expr_Arity) (F : Ent3) : Ent3 := fun a s γ K => match a, s with
  | [AVal.dat (Dat.int IntKind.i64 v_op)], [] => X v_op γ (fun r0 => K ([(AVal.dat (Dat.int IntKind.i64 r0), Own.none)], []))
  | a, s => F a s γ K
def T_expr_Arity  : CallK := noneK
def L_expr_Arity  : LoopK := noneL
def Sp.B_expr_Arity  (v_op : Int) (γ : Type) (K : Int → Option γ) : Option γ := bif decide (v_op = 3) then K 1 else bif decide (15 ≤ v_op) then bif decide (v_op ≤ 17) then K 1 else bif decide (1 ≤ v_op) then bif decide (v_op < 15) then K 2 else K 0 else K 0 else bif decide (1 ≤ v_op) then bif decide (v_op < 15) then K 2 else K 0 else K 0
theorem e_expr_Arity (p : Par)  (v_op : Int) (γ : Type) (K : List Ent × Sig → Option γ) : evFK (cfgZ p) (T_expr_Arity ) (L_expr_Arity ) 97 [AVal.dat (Dat.int IntKind.i64 v_op)] [] γ K = Sp.B_expr_Arity  v_op γ (fun r0 => K ([(AVal.dat (Dat.int IntKind.i64 r0), Own.none)], [])) := by kernel_rfl
def Sp.expr_Arity : Ty_expr_Arity := Sp.B_expr_Arity 
theorem E_expr_Arity (p : Par) {F : Ent3} (hF : EntOk (cfgZ p) 97 F) : EntOk (cfgZ p) 97 (P_expr_Arity Sp.expr_Arity F) := by
  intro a s γ K q h
  unfold P_expr_Arity at h
  split at h
  · exact body_ok (tab_nil _) rfl ((e_expr_Arity p  _ _ _).trans h)
  · exact hF _ _ _ _ _ h
abbrev Ty_expr_agg : Type 1 := Int → Int → Int → Int → ByteArray → ByteArray → ByteArray → List (List Dat) → (γ : Type) → (Bool → Option γ) → Option γ
def P_expr_agg (X : Ty_expr_agg) (F : Ent3) : Ent3 := fun a s γ K => match a, s with
  | [AVal.agg [(Dat.int IntKind.i64 v_e0, Own.none), (Dat.int IntKind.i64 v_e1, Own.none), (Dat.int IntKind.i64 v_e2, Own.none), (Dat.int IntKind.i64 v_e3, Own.none), (Dat.str v_e4, Own.none), (Dat.str v_e5, Own.none), (Dat.str v_e6, Own.none), (Dat.sl v_e7, Own.none)]], [] => X v_e0 v_e1 v_e2 v_e3 v_e4 v_e5 v_e6 v_e7 γ (fun r0 => K ([(AVal.dat (Dat.bool r0), Own.none)], []))
  | a, s => F a s γ K
def T_expr_agg (x_expr_bare : Ty_expr_bare) : CallK := (addK noneK 96 (P_expr_bare x_expr_bare none3))
def L_expr_agg (x_expr_bare : Ty_expr_bare) : LoopK := noneL
def Sp.B_expr_agg (x_expr_bare : Ty_expr_bare) (v_e0 : Int) (v_e1 : Int) (v_e2 : Int) (v_e3 : Int) (v_e4 : ByteArray) (v_e5 : ByteArray) (v_e6 : ByteArray) (v_e7 : List (List Dat)) (γ : Type) (K : Bool → Option γ) : Option γ := bif decide (v_e1 = 1) then x_expr_bare v_e0 v_e1 v_e2 v_e3 v_e4 v_e5 v_e6 v_e7 γ fun (z10 : Bool) => bif z10 then bif decide (1 ≤ v_e1) then bif decide (v_e1 ≤ 5) then K (decide (Int.ofNat (List.length v_e7) = 0)) else K false else K false else K false else x_expr_bare v_e0 v_e1 v_e2 v_e3 v_e4 v_e5 v_e6 v_e7 γ fun (z11 : Bool) => bif z11 then bif decide (1 ≤ v_e1) then bif decide (v_e1 ≤ 5) then K (decide (Int.ofNat (List.length v_e7) = 1)) else K false else K false else K false
theorem e_expr_agg (p : Par) (x_expr_bare : Ty_expr_bare) (v_e0 : Int) (v_e1 : Int) (v_e2 : Int) (v_e3 : Int) (v_e4 : ByteArray) (v_e5 : ByteArray) (v_e6 : ByteArray) (v_e7 : List (List Dat)) (γ : Type) (K : List Ent × Sig → Option γ) : evFK (cfgZ p) (T_expr_agg x_expr_bare) (L_expr_agg x_expr_bare) 98 [AVal.agg [(Dat.int IntKind.i64 v_e0, Own.none), (Dat.int IntKind.i64 v_e1, Own.none), (Dat.int IntKind.i64 v_e2, Own.none), (Dat.int IntKind.i64 v_e3, Own.none), (Dat.str v_e4, Own.none), (Dat.str v_e5, Own.none), (Dat.str v_e6, Own.none), (Dat.sl v_e7, Own.none)]] [] γ K = Sp.B_expr_agg x_expr_bare v_e0 v_e1 v_e2 v_e3 v_e4 v_e5 v_e6 v_e7 γ (fun r0 => K ([(AVal.dat (Dat.bool r0), Own.none)], [])) := by kernel_rfl
def Sp.expr_agg : Ty_expr_agg := Sp.B_expr_agg Sp.expr_bare
theorem E_expr_agg (p : Par) {F : Ent3} (hF : EntOk (cfgZ p) 98 F) : EntOk (cfgZ p) 98 (P_expr_agg Sp.expr_agg F) := by
  intro a s γ K q h
  unfold P_expr_agg at h
  split at h
  · exact body_ok (tab_call (tab_nil _) (E_expr_bare p (ent_none _ _))) rfl ((e_expr_agg p _ _ _ _ _ _ _ _ _ _ _).trans h)
  · exact hF _ _ _ _ _ h
abbrev Ty_expr_may : Type 1 := Int → Int → Int → Int → ByteArray → ByteArray → ByteArray → List (List Dat) → (γ : Type) → (Bool → Option γ) → Option γ
def P_expr_may (X : Ty_expr_may) (F : Ent3) : Ent3 := fun a s γ K => match a, s with
  | [AVal.agg [(Dat.int IntKind.i64 v_e0, Own.none), (Dat.int IntKind.i64 v_e1, Own.none), (Dat.int IntKind.i64 v_e2, Own.none), (Dat.int IntKind.i64 v_e3, Own.none), (Dat.str v_e4, Own.none), (Dat.str v_e5, Own.none), (Dat.str v_e6, Own.none), (Dat.sl v_e7, Own.none)]], [] => X v_e0 v_e1 v_e2 v_e3 v_e4 v_e5 v_e6 v_e7 γ (fun r0 => K ([(AVal.dat (Dat.bool r0), Own.none)], []))
  | a, s => F a s γ K
def T_expr_may (x_expr_literal : Ty_expr_literal) (x_expr_column : Ty_expr_column) (x_expr_bare : Ty_expr_bare) (x_expr_Arity : Ty_expr_Arity) (x_expr_agg : Ty_expr_agg) : CallK := (addK (addK (addK (addK (addK noneK 94 (P_expr_literal x_expr_literal none3)) 95 (P_expr_column x_expr_column none3)) 96 (P_expr_bare x_expr_bare none3)) 97 (P_expr_Arity x_expr_Arity none3)) 98 (P_expr_agg x_expr_agg none3))
def L_expr_may (x_expr_literal : Ty_expr_literal) (x_expr_column : Ty_expr_column) (x_expr_bare : Ty_expr_bare) (x_expr_Arity : Ty_expr_Arity) (x_expr_agg : Ty_expr_agg) : LoopK := noneL
def Sp.B_expr_may (x_expr_literal : Ty_expr_literal) (x_expr_column : Ty_expr_column) (x_expr_bare : Ty_expr_bare) (x_expr_Arity : Ty_expr_Arity) (x_expr_agg : Ty_expr_agg) (v_e0 : Int) (v_e1 : Int) (v_e2 : Int) (v_e3 : Int) (v_e4 : ByteArray) (v_e5 : ByteArray) (v_e6 : ByteArray) (v_e7 : List (List Dat)) (γ : Type) (K : Bool → Option γ) : Option γ := bif decide (v_e0 = 1) then x_expr_literal v_e0 v_e1 v_e2 v_e3 v_e4 v_e5 v_e6 v_e7 γ fun (z10 : Bool) => K z10 else bif decide (v_e0 = 2) then x_expr_column v_e0 v_e1 v_e2 v_e3 v_e4 v_e5 v_e6 v_e7 γ fun (z11 : Bool) => K z11 else bif decide (v_e0 = 3) then x_expr_bare v_e0 v_e1 v_e2 v_e3 v_e4 v_e5 v_e6 v_e7 γ fun (z12 : Bool) => bif z12 then x_expr_Arity v_e1 γ fun (z13 : Int) => bif decide (0 < z13) then x_expr_Arity v_e1 γ fun (z14 : Int) => K (decide (Int.ofNat (List.length v_e7) = z14)) else K false else K false else bif decide (v_e0 = 4) then x_expr_agg v_e0 v_e1 v_e2 v_e3 v_e4 v_e5 v_e6 v_e7 γ fun (z15 : Bool) => K z15 else K false
theorem e_expr_may (p : Par) (x_expr_literal : Ty_expr_literal) (x_expr_column : Ty_expr_column) (x_expr_bare : Ty_expr_bare) (x_expr_Arity : Ty_expr_Arity) (x_expr_agg : Ty_expr_agg) (v_e0 : Int) (v_e1 : Int) (v_e2 : Int) (v_e3 : Int) (v_e4 : ByteArray) (v_e5 : ByteArray) (v_e6 : ByteArray) (v_e7 : List (List Dat)) (γ : Type) (K : List Ent × Sig → Option γ) : evFK (cfgZ p) (T_expr_may x_expr_literal x_expr_column x_expr_bare x_expr_Arity x_expr_agg) (L_expr_may x_expr_literal x_expr_column x_expr_bare x_expr_Arity x_expr_agg) 77 [AVal.agg [(Dat.int IntKind.i64 v_e0, Own.none), (Dat.int IntKind.i64 v_e1, Own.none), (Dat.int IntKind.i64 v_e2, Own.none), (Dat.int IntKind.i64 v_e3, Own.none), (Dat.str v_e4, Own.none), (Dat.str v_e5, Own.none), (Dat.str v_e6, Own.none), (Dat.sl v_e7, Own.none)]] [] γ K = Sp.B_expr_may x_expr_literal x_expr_column x_expr_bare x_expr_Arity x_expr_agg v_e0 v_e1 v_e2 v_e3 v_e4 v_e5 v_e6 v_e7 γ (fun r0 => K ([(AVal.dat (Dat.bool r0), Own.none)], [])) := by kernel_rfl
def Sp.expr_may : Ty_expr_may := Sp.B_expr_may Sp.expr_literal Sp.expr_column Sp.expr_bare Sp.expr_Arity Sp.expr_agg
theorem E_expr_may (p : Par) {F : Ent3} (hF : EntOk (cfgZ p) 77 F) : EntOk (cfgZ p) 77 (P_expr_may Sp.expr_may F) := by
  intro a s γ K q h
  unfold P_expr_may at h
  split at h
  · exact body_ok (tab_call (tab_call (tab_call (tab_call (tab_call (tab_nil _) (E_expr_literal p (ent_none _ _))) (E_expr_column p (ent_none _ _))) (E_expr_bare p (ent_none _ _))) (E_expr_Arity p (ent_none _ _))) (E_expr_agg p (ent_none _ _))) rfl ((e_expr_may p _ _ _ _ _ _ _ _ _ _ _ _ _ _ _).trans h)
  · exact hF _ _ _ _ _ h
abbrev Ty_expr_scan_look : Type 1 := Int → Int → Int → Int → ByteArray → ByteArray → ByteArray → List (List Dat) → Int → Int → Int → Int → Bool → (γ : Type) → (Int → Int → Bool → Option γ) → Option γ
def P_expr_scan_look (X : Ty_expr_scan_look) (F : Ent3) : Ent3 := fun a s γ K => match a, s with
  | [AVal.ref 0 0, AVal.agg [(Dat.int IntKind.i64 v_e0, Own.none), (Dat.int IntKind.i64 v_e1, Own.none), (Dat.int IntKind.i64 v_e2, Own.none), (Dat.int IntKind.i64 v_e3, Own.none), (Dat.str v_e4, Own.none), (Dat.str v_e5, Own.none), (Dat.str v_e6, Own.none), (Dat.sl v_e7, Own.none)], AVal.dat (Dat.int IntKind.i64 v_deep), AVal.dat (Dat.int IntKind.i64 v_aggs)], [Box.cells [AVal.dat (Dat.int IntKind.i64 b0), AVal.dat (Dat.int IntKind.i64 b1), AVal.dat (Dat.bool b2)]] => X v_e0 v_e1 v_e2 v_e3 v_e4 v_e5 v_e6 v_e7 v_deep v_aggs b0 b1 b2 γ (fun r0 r1 r2 => K ([], [Box.cells [AVal.dat (Dat.int IntKind.i64 r0), AVal.dat (Dat.int IntKind.i64 r1), AVal.dat (Dat.bool r2)]]))
  | a, s => F a s γ K
abbrev Ty_expr_scan_look_L0 : Type 1 := Int → Int → List (List Dat) → Int → Int → Int → Int → Bool → (γ : Type) → (Ex → Int → Int → Int → Bool → Option γ) → Option γ
def P_expr_scan_look_L0 (X : Ty_expr_scan_look_L0) (F : Loop3) : Loop3 := fun a s γ K => match a, s with
  | [AVal.ref 0 0, AVal.dat (Dat.int IntKind.i64 v_deep), AVal.dat (Dat.int IntKind.i64 v_aggs), AVal.dat (Dat.sl v_), AVal.dat (Dat.int IntKind.i64 v__1)], ([AVal.dat (Dat.int IntKind.i64 v__2)], [Box.cells [AVal.dat (Dat.int IntKind.i64 b0), AVal.dat (Dat.int IntKind.i64 b1), AVal.dat (Dat.bool b2)]]) => X v_deep v_aggs v_ v__1 v__2 b0 b1 b2 γ (fun e x0 x1 x2 x3 => K (e, ([AVal.dat (Dat.int IntKind.i64 x0)], [Box.cells [AVal.dat (Dat.int IntKind.i64 x1), AVal.dat (Dat.int IntKind.i64 x2), AVal.dat (Dat.bool x3)]])))
  | a, s => F a s γ K
def T_expr_scan_look_L0 (x_expr_scan_look : Ty_expr_scan_look) : CallK := (addK noneK 55 (P_expr_scan_look x_expr_scan_look none3))
def L_expr_scan_look_L0 (x_expr_scan_look : Ty_expr_scan_look) : LoopK := noneL
def Sp.B_expr_scan_look_L0 (x_expr_scan_look_L0 : Ty_expr_scan_look_L0) (x_expr_scan_look : Ty_expr_scan_look) (v_deep : Int) (v_aggs : Int) (v_ : List (List Dat)) (v__1 : Int) (v__2 : Int) (b0 : Int) (b1 : Int) (b2 : Bool) (γ : Type) (K : Ex → Int → Int → Int → Bool → Option γ) : Option γ := bif decide (v__2 < v__1) then elemAt v_ v__2 fun (z10 : List Dat) => bif List.length z10 == 8 then cellAt z10 0 fun (z11 : Dat) => Aev.asInt IntKind.i64 z11 fun (z12 : Int) => cellAt z10 1 fun (z13 : Dat) => Aev.asInt IntKind.i64 z13 fun (z14 : Int) => cellAt z10 2 fun (z15 : Dat) => Aev.asInt IntKind.i64 z15 fun (z16 : Int) => cellAt z10 3 fun (z17 : Dat) => Aev.asInt IntKind.i64 z17 fun (z18 : Int) => cellAt z10 4 fun (z19 : Dat) => asStr z19 fun (z20 : ByteArray) => cellAt z10 5 fun (z21 : Dat) => asStr z21 fun (z22 : ByteArray) => cellAt z10 6 fun (z23 : Dat) => asStr z23 fun (z24 : ByteArray) => cellAt z10 7 fun (z25 : Dat) => asSl z25 fun (z26 : List (List Dat)) => bif b2 then K Ex.ret v__2 b0 b1 b2 else x_expr_scan_look z12 z14 z16 z18 z20 z22 z24 z26 (IntKind.wrap IntKind.i64 (v_deep + 1)) v_aggs b0 b1 b2 γ fun (z27 z28 : Int) (z29 : Bool) => x_expr_scan_look_L0 v_deep v_aggs v_ v__1 (IntKind.wrap IntKind.i64 (v__2 + 1)) z27 z28 z29 γ K else none else K (Ex.exit 0) v__2 b0 b1 b2
theorem e_expr_scan_look_L0 (p : Par) (x_expr_scan_look_L0 : Ty_expr_scan_look_L0) (x_expr_scan_look : Ty_expr_scan_look) (v_deep : Int) (v_aggs : Int) (v_ : List (List Dat)) (v__1 : Int) (v__2 : Int) (b0 : Int) (b1 : Int) (b2 : Bool) (γ : Type) (K : Ex × Vars → Option γ) : roundK (cfgZ p) (T_expr_scan_look_L0 x_expr_scan_look) (L_expr_scan_look_L0 x_expr_scan_look) 55 0 [AVal.ref 0 0, AVal.dat (Dat.int IntKind.i64 v_deep), AVal.dat (Dat.int IntKind.i64 v_aggs), AVal.dat (Dat.sl v_), AVal.dat (Dat.int IntKind.i64 v__1)] ([AVal.dat (Dat.int IntKind.i64 v__2)], [Box.cells [AVal.dat (Dat.int IntKind.i64 b0), AVal.dat (Dat.int IntKind.i64 b1), AVal.dat (Dat.bool b2)]]) γ (contL (fun v => P_expr_scan_look_L0 x_expr_scan_look_L0 noneL3 [AVal.ref 0 0, AVal.dat (Dat.int IntKind.i64 v_deep), AVal.dat (Dat.int IntKind.i64 v_aggs), AVal.dat (Dat.sl v_), AVal.dat (Dat.int IntKind.i64 v__1)] v γ K) K) = Sp.B_expr_scan_look_L0 x_expr_scan_look_L0 x_expr_scan_look v_deep v_aggs v_ v__1 v__2 b0 b1 b2 γ (fun e x0 x1 x2 x3 => K (e, ([AVal.dat (Dat.int IntKind.i64 x0)], [Box.cells [AVal.dat (Dat.int IntKind.i64 x1), AVal.dat (Dat.int IntKind.i64 x2), AVal.dat (Dat.bool x3)]]))) := by kernel_rfl
def T_expr_scan_look (x_expr_scan_look_L0 : Ty_expr_scan_look_L0) (x_expr_may : Ty_expr_may) : CallK := (addK noneK 77 (P_expr_may x_expr_may none3))
def L_expr_scan_look (x_expr_scan_look_L0 : Ty_expr_scan_look_L0) (x_expr_may : Ty_expr_may) : LoopK := (addL noneL 55 0 (P_expr_scan_look_L0 x_expr_scan_look_L0 noneL3))
def Sp.B_expr_scan_look (x_expr_scan_look_L0 : Ty_expr_scan_look_L0) (x_expr_may : Ty_expr_may) (v_e0 : Int) (v_e1 : Int) (v_e2 : Int) (v_e3 : Int) (v_e4 : ByteArray) (v_e5 : ByteArray) (v_e6 : ByteArray) (v_e7 : List (List Dat)) (v_deep : Int) (v_aggs : Int) (b0 : Int) (b1 : Int) (b2 : Bool) (γ : Type) (K : Int → Int → Bool → Option γ) : Option γ := bif decide (v_e0 = 4) then bif b2 then x_expr_scan_look_L0 v_deep (IntKind.wrap IntKind.i64 (v_aggs + 1)) v_e7 (Int.ofNat (List.length v_e7)) 0 (IntKind.wrap IntKind.i64 (b0 + 1)) (max b1 v_deep) true γ fun (z15 : Ex) (z16 z17 z18 : Int) (z19 : Bool) => bif Ex.isExit z15 0 then K z17 z18 z19 else bif Ex.isRet z15 then K z17 z18 z19 else none else x_expr_may v_e0 v_e1 v_e2 v_e3 v_e4 v_e5 v_e6 v_e7 γ fun (z20 : Bool) => bif !z20 then x_expr_scan_look_L0 v_deep (IntKind.wrap IntKind.i64 (v_aggs + 1)) v_e7 (Int.ofNat (List.length v_e7)) 0 (IntKind.wrap IntKind.i64 (b0 + 1)) (max b1 v_deep) true γ fun (z21 : Ex) (z22 z23 z24 : Int) (z25 : Bool) => bif Ex.isExit z21 0 then K z23 z24 z25 else bif Ex.isRet z21 then K z23 z24 z25 else none else bif decide (1 < IntKind.wrap IntKind.i64 (v_aggs + 1)) then x_expr_scan_look_L0 v_deep (IntKind.wrap IntKind.i64 (v_aggs + 1)) v_e7 (Int.ofNat (List.length v_e7)) 0 (IntKind.wrap IntKind.i64 (b0 + 1)) (max b1 v_deep) true γ fun (z26 : Ex) (z27 z28 z29 : Int) (z30 : Bool) => bif Ex.isExit z26 0 then K z28 z29 z30 else bif Ex.isRet z26 then K z28 z29 z30 else none else bif decide (512 < IntKind.wrap IntKind.i64 (b0 + 1)) then x_expr_scan_look_L0 v_deep (IntKind.wrap IntKind.i64 (v_aggs + 1)) v_e7 (Int.ofNat (List.length v_e7)) 0 (IntKind.wrap IntKind.i64 (b0 + 1)) (max b1 v_deep) true γ fun (z31 : Ex) (z32 z33 z34 : Int) (z35 : Bool) => bif Ex.isExit z31 0 then K z33 z34 z35 else bif Ex.isRet z31 then K z33 z34 z35 else none else x_expr_scan_look_L0 v_deep (IntKind.wrap IntKind.i64 (v_aggs + 1)) v_e7 (Int.ofNat (List.length v_e7)) 0 (IntKind.wrap IntKind.i64 (b0 + 1)) (max b1 v_deep) (decide (32 < v_deep)) γ fun (z36 : Ex) (z37 z38 z39 : Int) (z40 : Bool) => bif Ex.isExit z36 0 then K z38 z39 z40 else bif Ex.isRet z36 then K z38 z39 z40 else none else bif b2 then x_expr_scan_look_L0 v_deep v_aggs v_e7 (Int.ofNat (List.length v_e7)) 0 (IntKind.wrap IntKind.i64 (b0 + 1)) (max b1 v_deep) true γ fun (z41 : Ex) (z42 z43 z44 : Int) (z45 : Bool) => bif Ex.isExit z41 0 then K z43 z44 z45 else bif Ex.isRet z41 then K z43 z44 z45 else none else x_expr_may v_e0 v_e1 v_e2 v_e3 v_e4 v_e5 v_e6 v_e7 γ fun (z46 : Bool) => bif !z46 then x_expr_scan_look_L0 v_deep v_aggs v_e7 (Int.ofNat (List.length v_e7)) 0 (IntKind.wrap IntKind.i64 (b0 + 1)) (max b1 v_deep) true γ fun (z47 : Ex) (z48 z49 z50 : Int) (z51 : Bool) => bif Ex.isExit z47 0 then K z49 z50 z51 else bif Ex.isRet z47 then K z49 z50 z51 else none else bif decide (1 < v_aggs) then x_expr_scan_look_L0 v_deep v_aggs v_e7 (Int.ofNat (List.length v_e7)) 0 (IntKind.wrap IntKind.i64 (b0 + 1)) (max b1 v_deep) true γ fun (z52 : Ex) (z53 z54 z55 : Int) (z56 : Bool) => bif Ex.isExit z52 0 then K z54 z55 z56 else bif Ex.isRet z52 then K z54 z55 z56 else none else bif decide (512 < IntKind.wrap IntKind.i64 (b0 + 1)) then x_expr_scan_look_L0 v_deep v_aggs v_e7 (Int.ofNat (List.length v_e7)) 0 (IntKind.wrap IntKind.i64 (b0 + 1)) (max b1 v_deep) true γ fun (z57 : Ex) (z58 z59 z60 : Int) (z61 : Bool) => bif Ex.isExit z57 0 then K z59 z60 z61 else bif Ex.isRet z57 then K z59 z60 z61 else none else x_expr_scan_look_L0 v_deep v_aggs v_e7 (Int.ofNat (List.length v_e7)) 0 (IntKind.wrap IntKind.i64 (b0 + 1)) (max b1 v_deep) (decide (32 < v_deep)) γ fun (z62 : Ex) (z63 z64 z65 : Int) (z66 : Bool) => bif Ex.isExit z62 0 then K z64 z65 z66 else bif Ex.isRet z62 then K z64 z65 z66 else none
theorem e_expr_scan_look (p : Par) (x_expr_scan_look_L0 : Ty_expr_scan_look_L0) (x_expr_may : Ty_expr_may) (v_e0 : Int) (v_e1 : Int) (v_e2 : Int) (v_e3 : Int) (v_e4 : ByteArray) (v_e5 : ByteArray) (v_e6 : ByteArray) (v_e7 : List (List Dat)) (v_deep : Int) (v_aggs : Int) (b0 : Int) (b1 : Int) (b2 : Bool) (γ : Type) (K : List Ent × Sig → Option γ) : evFK (cfgZ p) (T_expr_scan_look x_expr_scan_look_L0 x_expr_may) (L_expr_scan_look x_expr_scan_look_L0 x_expr_may) 55 [AVal.ref 0 0, AVal.agg [(Dat.int IntKind.i64 v_e0, Own.none), (Dat.int IntKind.i64 v_e1, Own.none), (Dat.int IntKind.i64 v_e2, Own.none), (Dat.int IntKind.i64 v_e3, Own.none), (Dat.str v_e4, Own.none), (Dat.str v_e5, Own.none), (Dat.str v_e6, Own.none), (Dat.sl v_e7, Own.none)], AVal.dat (Dat.int IntKind.i64 v_deep), AVal.dat (Dat.int IntKind.i64 v_aggs)] [Box.cells [AVal.dat (Dat.int IntKind.i64 b0), AVal.dat (Dat.int IntKind.i64 b1), AVal.dat (Dat.bool b2)]] γ K = Sp.B_expr_scan_look x_expr_scan_look_L0 x_expr_may v_e0 v_e1 v_e2 v_e3 v_e4 v_e5 v_e6 v_e7 v_deep v_aggs b0 b1 b2 γ (fun r0 r1 r2 => K ([], [Box.cells [AVal.dat (Dat.int IntKind.i64 r0), AVal.dat (Dat.int IntKind.i64 r1), AVal.dat (Dat.bool r2)]])) := by kernel_rfl
def Sp.expr_scan_look_L0 (R_expr_scan_look : Ty_expr_scan_look) : Nat → Ty_expr_scan_look_L0
  | 0 => fun _ _ _ _ _ _ _ _ _ _ => none
  | n + 1 => Sp.B_expr_scan_look_L0 (Sp.expr_scan_look_L0 R_expr_scan_look n) R_expr_scan_look
theorem E0_expr_scan_look_L0 (p : Par) (R_expr_scan_look : Ty_expr_scan_look) (h_expr_scan_look : ∀ {F : Ent3}, EntOk (cfgZ p) 55 F → EntOk (cfgZ p) 55 (P_expr_scan_look R_expr_scan_look F)) : ∀ n, EntOkL (cfgZ p) 55 0 (P_expr_scan_look_L0 (Sp.expr_scan_look_L0 R_expr_scan_look n) noneL3) := entL_rounds (tab_call (tab_nil _) (h_expr_scan_look (ent_none _ _))) (by kernel_rfl) (fun c v γ K => by unfold P_expr_scan_look_L0; split <;> rfl) fun n c v γ K q h => by
  unfold P_expr_scan_look_L0 at h
  split at h
  · exact (e_expr_scan_look_L0 p _ _ _ _ _ _ _ _ _ _ _ _).trans h
  · cases h
theorem E_expr_scan_look_L0 (p : Par) (R_expr_scan_look : Ty_expr_scan_look) (h_expr_scan_look : ∀ {F : Ent3}, EntOk (cfgZ p) 55 F → EntOk (cfgZ p) 55 (P_expr_scan_look R_expr_scan_look F)) (n : Nat) {F : Loop3} (hF : EntOkL (cfgZ p) 55 0 F) : EntOkL (cfgZ p) 55 0 (P_expr_scan_look_L0 (Sp.expr_scan_look_L0 R_expr_scan_look n) F) := by
  intro c v γ K q h
  unfold P_expr_scan_look_L0 at h
  split at h
  · exact E0_expr_scan_look_L0 p R_expr_scan_look h_expr_scan_look n _ _ _ _ _ h
  · exact hF _ _ _ _ _ h
def Sp.expr_scan_look : Nat → Ty_expr_scan_look
  | 0 => fun _ _ _ _ _ _ _ _ _ _ _ _ _ _ _ => none
  | n + 1 => Sp.B_expr_scan_look (Sp.expr_scan_look_L0 (Sp.expr_scan_look n) fuel) Sp.expr_may
theorem G3_ok (p : Par) (n : Nat) : (∀ {F : Ent3}, EntOk (cfgZ p) 55 F → EntOk (cfgZ p) 55 (P_expr_scan_look (Sp.expr_scan_look n) F)) := by
  induction n with
  | zero =>
    refine ?_
    · intro F hF a s γ K q h
      unfold P_expr_scan_look at h
      split at h
      · cases h
      · exact hF _ _ _ _ _ h
  | succ n ih =>
    refine ?_
    · intro F hF a s γ K q h
      unfold P_expr_scan_look at h
      split at h
      · exact body_ok (tab_loop (tab_call (tab_nil _) (E_expr_may p (ent_none _ _))) (E_expr_scan_look_L0 p (Sp.expr_scan_look n) ih fuel (entL_none _ _ _))) rfl ((e_expr_scan_look p _ _ _ _ _ _ _ _ _ _ _ _ _ _ _ _ _).trans h)
      · exact hF _ _ _ _ _ h
theorem E_expr_scan_look (p : Par) (n : Nat) {F : Ent3} (hF : EntOk (cfgZ p) 55 F) : EntOk (cfgZ p) 55 (P_expr_scan_look (Sp.expr_scan_look n) F) := (G3_ok p n) hF
abbrev Ty_expr_scanned : Type 1 := Int → Int → Int → Int → ByteArray → ByteArray → ByteArray → List (List Dat) → (γ : Type) → (Int → Int → Bool → Option γ) → Option γ
def P_expr_scanned (X : Ty_expr_scanned) (F : Ent3) : Ent3 := fun a s γ K => match a, s with
  | [AVal.agg [(Dat.int IntKind.i64 v_e0, Own.none), (Dat.int IntKind.i64 v_e1, Own.none), (Dat.int IntKind.i64 v_e2, Own.none), (Dat.int IntKind.i64 v_e3, Own.none), (Dat.str v_e4, Own.none), (Dat.str v_e5, Own.none), (Dat.str v_e6, Own.none), (Dat.sl v_e7, Own.none)]], [] => X v_e0 v_e1 v_e2 v_e3 v_e4 v_e5 v_e6 v_e7 γ (fun r0 r1 r2 => K ([(AVal.agg [(Dat.int IntKind.i64 r0, Own.none), (Dat.int IntKind.i64 r1, Own.none), (Dat.bool r2, Own.none)], Own.none)], []))
  | a, s => F a s γ K
def T_expr_scanned (x_expr_scan_look : Ty_expr_scan_look) : CallK := (addK noneK 55 (P_expr_scan_look x_expr_scan_look none3))
def L_expr_scanned (x_expr_scan_look : Ty_expr_scan_look) : LoopK := noneL
def Sp.B_expr_scanned (x_expr_scan_look : Ty_expr_scan_look) (v_e0 : Int) (v_e1 : Int) (v_e2 : Int) (v_e3 : Int) (v_e4 : ByteArray) (v_e5 : ByteArray) (v_e6 : ByteArray) (v_e7 : List (List Dat)) (γ : Type) (K : Int → Int → Bool → Option γ) : Option γ := x_expr_scan_look v_e0 v_e1 v_e2 v_e3 v_e4 v_e5 v_e6 v_e7 1 0 0 0 false γ fun (z10 z11 : Int) (z12 : Bool) => bif z12 then K 0 0 true else K z10 z11 z12
theorem e_expr_scanned (p : Par) (x_expr_scan_look : Ty_expr_scan_look) (v_e0 : Int) (v_e1 : Int) (v_e2 : Int) (v_e3 : Int) (v_e4 : ByteArray) (v_e5 : ByteArray) (v_e6 : ByteArray) (v_e7 : List (List Dat)) (γ : Type) (K : List Ent × Sig → Option γ) : evFK (cfgZ p) (T_expr_scanned x_expr_scan_look) (L_expr_scanned x_expr_scan_look) 46 [AVal.agg [(Dat.int IntKind.i64 v_e0, Own.none), (Dat.int IntKind.i64 v_e1, Own.none), (Dat.int IntKind.i64 v_e2, Own.none), (Dat.int IntKind.i64 v_e3, Own.none), (Dat.str v_e4, Own.none), (Dat.str v_e5, Own.none), (Dat.str v_e6, Own.none), (Dat.sl v_e7, Own.none)]] [] γ K = Sp.B_expr_scanned x_expr_scan_look v_e0 v_e1 v_e2 v_e3 v_e4 v_e5 v_e6 v_e7 γ (fun r0 r1 r2 => K ([(AVal.agg [(Dat.int IntKind.i64 r0, Own.none), (Dat.int IntKind.i64 r1, Own.none), (Dat.bool r2, Own.none)], Own.none)], [])) := by kernel_rfl
def Sp.expr_scanned : Ty_expr_scanned := Sp.B_expr_scanned (Sp.expr_scan_look fuel)
theorem E_expr_scanned (p : Par) {F : Ent3} (hF : EntOk (cfgZ p) 46 F) : EntOk (cfgZ p) 46 (P_expr_scanned Sp.expr_scanned F) := by
  intro a s γ K q h
  unfold P_expr_scanned at h
  split at h
  · exact body_ok (tab_call (tab_nil _) (E_expr_scan_look p fuel (ent_none _ _))) rfl ((e_expr_scanned p _ _ _ _ _ _ _ _ _ _ _).trans h)
  · exact hF _ _ _ _ _ h
abbrev Ty_expr_Check : Type 1 := Int → Int → Int → Int → ByteArray → ByteArray → ByteArray → List (List Dat) → (γ : Type) → (Int → Option γ) → Option γ
def P_expr_Check (X : Ty_expr_Check) (F : Ent3) : Ent3 := fun a s γ K => match a, s with
  | [AVal.agg [(Dat.int IntKind.i64 v_e0, Own.none), (Dat.int IntKind.i64 v_e1, Own.none), (Dat.int IntKind.i64 v_e2, Own.none), (Dat.int IntKind.i64 v_e3, Own.none), (Dat.str v_e4, Own.none), (Dat.str v_e5, Own.none), (Dat.str v_e6, Own.none), (Dat.sl v_e7, Own.none)]], [] => X v_e0 v_e1 v_e2 v_e3 v_e4 v_e5 v_e6 v_e7 γ (fun r0 => K ([(AVal.dat (Dat.int IntKind.i64 r0), Own.none)], []))
  | a, s => F a s γ K
def T_expr_Check (x_expr_scanned : Ty_expr_scanned) : CallK := (addK noneK 46 (P_expr_scanned x_expr_scanned none3))
def L_expr_Check (x_expr_scanned : Ty_expr_scanned) : LoopK := noneL
def Sp.B_expr_Check (x_expr_scanned : Ty_expr_scanned) (v_e0 : Int) (v_e1 : Int) (v_e2 : Int) (v_e3 : Int) (v_e4 : ByteArray) (v_e5 : ByteArray) (v_e6 : ByteArray) (v_e7 : List (List Dat)) (γ : Type) (K : Int → Option γ) : Option γ := x_expr_scanned v_e0 v_e1 v_e2 v_e3 v_e4 v_e5 v_e6 v_e7 γ fun (z10 z11 : Int) (z12 : Bool) => bif z12 then K 100 else K 0
theorem e_expr_Check (p : Par) (x_expr_scanned : Ty_expr_scanned) (v_e0 : Int) (v_e1 : Int) (v_e2 : Int) (v_e3 : Int) (v_e4 : ByteArray) (v_e5 : ByteArray) (v_e6 : ByteArray) (v_e7 : List (List Dat)) (γ : Type) (K : List Ent × Sig → Option γ) : evFK (cfgZ p) (T_expr_Check x_expr_scanned) (L_expr_Check x_expr_scanned) 34 [AVal.agg [(Dat.int IntKind.i64 v_e0, Own.none), (Dat.int IntKind.i64 v_e1, Own.none), (Dat.int IntKind.i64 v_e2, Own.none), (Dat.int IntKind.i64 v_e3, Own.none), (Dat.str v_e4, Own.none), (Dat.str v_e5, Own.none), (Dat.str v_e6, Own.none), (Dat.sl v_e7, Own.none)]] [] γ K = Sp.B_expr_Check x_expr_scanned v_e0 v_e1 v_e2 v_e3 v_e4 v_e5 v_e6 v_e7 γ (fun r0 => K ([(AVal.dat (Dat.int IntKind.i64 r0), Own.none)], [])) := by kernel_rfl
def Sp.expr_Check : Ty_expr_Check := Sp.B_expr_Check Sp.expr_scanned
theorem E_expr_Check (p : Par) {F : Ent3} (hF : EntOk (cfgZ p) 34 F) : EntOk (cfgZ p) 34 (P_expr_Check Sp.expr_Check F) := by
  intro a s γ K q h
  unfold P_expr_Check at h
  split at h
  · exact body_ok (tab_call (tab_nil _) (E_expr_scanned p (ent_none _ _))) rfl ((e_expr_Check p _ _ _ _ _ _ _ _ _ _ _).trans h)
  · exact hF _ _ _ _ _ h
end
end Go.Proofs.YtppilomaljgkoaaGreatDoor.Z

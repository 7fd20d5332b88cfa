/- What the functions of this program compute, printed by a program. -/
import Derived.Test.YtimdilbcijgadaaGreatDoorK2
import Derived.KernelRfl
set_option linter.unusedVariables false
namespace Go.Proofs.YtimdilbcijgadaaGreatDoor.Y
open Go Go.Aev Go.RowKit
noncomputable section
abbrev Ty_row_reader_next : Type 1 := Int → List (List Dat) → Int → Bool → (γ : Type) → (List (List Dat) → List (List Dat) → Int → Bool → Option γ) → Option γ
def P_row_reader_next (X : Ty_row_reader_next) (F : Ent3) : Ent3 := fun a s γ K => match a, s with
  | [AVal.ref 0 0, AVal.dat (Dat.int IntKind.i64 v_n)], [Box.cells [AVal.dat (Dat.sl b0), AVal.dat (Dat.int IntKind.i64 b1), AVal.dat (Dat.bool b2)]] => X v_n b0 b1 b2 γ (fun r0 r1 r2 r3 => K ([(AVal.dat (Dat.sl r0), Own.none)], [Box.cells [AVal.dat (Dat.sl r1), AVal.dat (Dat.int IntKind.i64 r2), AVal.dat (Dat.bool r3)]]))
  | a, s => F a s γ K
def T_row_reader_next  : CallK := noneK
def L_row_reader_next  : LoopK := noneL
def Sp.B_row_reader_next  (v_n : Int) (b0 : List (List Dat)) (b1 : Int) (b2 : Bool) (γ : Type) (K : List (List Dat) → List (List Dat) → Int → Bool → Option γ) : Option γ := bif b2 then bif decide (0 ≤ v_n) && decide (v_n ≤ v_n) && decide (v_n * 2 ≤ 70368744177664) && true && true then K (List.replicate (Int.toNat v_n) [Dat.int IntKind.u8 0]) b0 b1 true else none else bif decide (IntKind.wrap IntKind.i64 (Int.ofNat (List.length b0) - b1) < v_n) then bif decide (0 ≤ v_n) && decide (v_n ≤ v_n) && decide (v_n * 2 ≤ 70368744177664) && true && true then K (List.replicate (Int.toNat v_n) [Dat.int IntKind.u8 0]) b0 b1 true else none else bif decide (0 ≤ IntKind.wrap IntKind.i64 (IntKind.wrap IntKind.i64 (b1 + v_n) - v_n)) && decide (IntKind.wrap IntKind.i64 (IntKind.wrap IntKind.i64 (b1 + v_n) - v_n) ≤ IntKind.wrap IntKind.i64 (b1 + v_n)) && decide (IntKind.wrap IntKind.i64 (b1 + v_n) ≤ Int.ofNat (List.length b0)) && true && sized b0 1 then K (List.drop (Int.toNat (IntKind.wrap IntKind.i64 (IntKind.wrap IntKind.i64 (b1 + v_n) - v_n))) (List.take (Int.toNat (IntKind.wrap IntKind.i64 (b1 + v_n))) b0)) b0 (IntKind.wrap IntKind.i64 (b1 + v_n)) b2 else none
theorem e_row_reader_next (p : Par) (v_n b0 b1 b2) (γ : Type) (K : List Ent × Sig → Option γ) : evFK (cfgY p) (T_row_reader_next ) (L_row_reader_next ) 144 [AVal.ref 0 0, AVal.dat (Dat.int IntKind.i64 v_n)] [Box.cells [AVal.dat (Dat.sl b0), AVal.dat (Dat.int IntKind.i64 b1), AVal.dat (Dat.bool b2)]] γ K = Sp.B_row_reader_next  v_n b0 b1 b2 γ (fun r0 r1 r2 r3 => K ([(AVal.dat (Dat.sl r0), Own.none)], [Box.cells [AVal.dat (Dat.sl r1), AVal.dat (Dat.int IntKind.i64 r2), AVal.dat (Dat.bool r3)]])) := by kernel_rfl
def Sp.row_reader_next : Ty_row_reader_next := Sp.B_row_reader_next 
theorem E_row_reader_next (p : Par) {F : Ent3} (hF : EntOk (cfgY p) 144 F) : EntOk (cfgY p) 144 (P_row_reader_next Sp.row_reader_next F) := by
  intro a s γ K q h
  unfold P_row_reader_next at h
  split at h
  · exact body_ok (tab_nil _) rfl ((e_row_reader_next p  _ _ _ _ _ _).trans h)
  · exact hF _ _ _ _ _ h
abbrev Ty_row_reader_byte : Type 1 := List (List Dat) → Int → Bool → (γ : Type) → (Int → List (List Dat) → Int → Bool → Option γ) → Option γ
def P_row_reader_byte (X : Ty_row_reader_byte) (F : Ent3) : Ent3 := fun a s γ K => match a, s with
  | [AVal.ref 0 0], [Box.cells [AVal.dat (Dat.sl b0), AVal.dat (Dat.int IntKind.i64 b1), AVal.dat (Dat.bool b2)]] => X b0 b1 b2 γ (fun r0 r1 r2 r3 => K ([(AVal.dat (Dat.int IntKind.i64 r0), Own.none)], [Box.cells [AVal.dat (Dat.sl r1), AVal.dat (Dat.int IntKind.i64 r2), AVal.dat (Dat.bool r3)]]))
  | a, s => F a s γ K
def T_row_reader_byte (x_row_reader_next : Ty_row_reader_next) : CallK := (addK noneK 144 (P_row_reader_next x_row_reader_next none3))
def L_row_reader_byte (x_row_reader_next : Ty_row_reader_next) : LoopK := noneL
def Sp.B_row_reader_byte (x_row_reader_next : Ty_row_reader_next) (b0 : List (List Dat)) (b1 : Int) (b2 : Bool) (γ : Type) (K : Int → List (List Dat) → Int → Bool → Option γ) : Option γ := x_row_reader_next 1 b0 b1 b2 γ fun (z5 z6 : List (List Dat)) (z7 : Int) (z8 : Bool) => elemAt z5 0 fun (z9 : List Dat) => bif List.length z9 == 1 then cellAt z9 0 fun (z10 : Dat) => Aev.asInt IntKind.u8 z10 fun (z11 : Int) => K (IntKind.wrap IntKind.i64 z11) z6 z7 z8 else none
theorem e_row_reader_byte (p : Par) (x_row_reader_next b0 b1 b2) (γ : Type) (K : List Ent × Sig → Option γ) : evFK (cfgY p) (T_row_reader_byte x_row_reader_next) (L_row_reader_byte x_row_reader_next) 130 [AVal.ref 0 0] [Box.cells [AVal.dat (Dat.sl b0), AVal.dat (Dat.int IntKind.i64 b1), AVal.dat (Dat.bool b2)]] γ K = Sp.B_row_reader_byte x_row_reader_next b0 b1 b2 γ (fun r0 r1 r2 r3 => K ([(AVal.dat (Dat.int IntKind.i64 r0), Own.none)], [Box.cells [AVal.dat (Dat.sl r1), AVal.dat (Dat.int IntKind.i64 r2), AVal.dat (Dat.bool r3)]])) := by kernel_rfl
def Sp.row_reader_byte : Ty_row_reader_byte := Sp.B_row_reader_byte Sp.row_reader_next
theorem E_row_reader_byte (p : Par) {F : Ent3} (hF : EntOk (cfgY p) 130 F) : EntOk (cfgY p) 130 (P_row_reader_byte Sp.row_reader_byte F) := by
  intro a s γ K q h
  unfold P_row_reader_byte at h
  split at h
  · exact body_ok (tab_call (tab_nil _) (E_row_reader_next p (ent_none _ _))) rfl ((e_row_reader_byte p _ _ _ _ _ _).trans h)
  · exact hF _ _ _ _ _ h
abbrev Ty_value_Check : Type 1 := Int → Int → ByteArray → (γ : Type) → (Int → Option γ) → Option γ
def P_value_Check (X : Ty_value_Check) (F : Ent3) : Ent3 := fun a s γ K => match a, s with
  | [AVal.agg [(Dat.int IntKind.i64 v_v0, Own.none), (Dat.int IntKind.i64 v_v1, Own.none), (Dat.str v_v2, Own.none)]], [] => X v_v0 v_v1 v_v2 γ (fun r0 => K ([(AVal.dat (Dat.int IntKind.i64 r0), Own.none)], []))
  | a, s => F a s γ K
def T_value_Check  : CallK := noneK
def L_value_Check  : LoopK := noneL
def Sp.B_value_Check  (v_v0 v_v1 : Int) (v_v2 : ByteArray) (γ : Type) (K : Int → Option γ) : Option γ := bif decide (v_v0 = 0) then bif !(decide (v_v0 = 0) && (decide (v_v1 = 0) && (decide (v_v2 = bs []) && true))) then K 10 else K 0 else bif decide (v_v0 = 1) then bif decide (Int.fdiv v_v1 2 = 0) then bif !decide (v_v2 = bs []) then K 10 else K 0 else K 10 else bif decide (v_v0 = 2) then bif decide (-9007199254740991 ≤ v_v1) then bif decide (v_v1 ≤ 9007199254740991) then bif !decide (v_v2 = bs []) then K 10 else K 0 else K 10 else K 10 else bif decide (v_v0 = 3) then bif decide (v_v1 = 0) then bif !decide (Int.ofNat (ByteArray.size v_v2) ≤ 64) then K 10 else K 0 else K 10 else K 10
theorem e_value_Check (p : Par) (v_v0 v_v1 v_v2) (γ : Type) (K : List Ent × Sig → Option γ) : evFK (cfgY p) (T_value_Check ) (L_value_Check ) 77 [AVal.agg [(Dat.int IntKind.i64 v_v0, Own.none), (Dat.int IntKind.i64 v_v1, Own.none), (Dat.str v_v2, Own.none)]] [] γ K = Sp.B_value_Check  v_v0 v_v1 v_v2 γ (fun r0 => K ([(AVal.dat (Dat.int IntKind.i64 r0), Own.none)], [])) := by kernel_rfl
def Sp.value_Check : Ty_value_Check := Sp.B_value_Check 
theorem E_value_Check (p : Par) {F : Ent3} (hF : EntOk (cfgY p) 77 F) : EntOk (cfgY p) 77 (P_value_Check Sp.value_Check F) := by
  intro a s γ K q h
  unfold P_value_Check at h
  split at h
  · exact body_ok (tab_nil _) rfl ((e_value_Check p  _ _ _ _ _).trans h)
  · exact hF _ _ _ _ _ h
abbrev Ty_row_reader_value_L1 : Type 1 := List (List Dat) → Int → Int → Int → Int → Int → ByteArray → Int → Int → ByteArray → List (List Dat) → Int → Bool → (γ : Type) → (Ex → Int → Int → Int → Int → ByteArray → Int → Int → ByteArray → List (List Dat) → Int → Bool → Option γ) → Option γ
def P_row_reader_value_L1 (X : Ty_row_reader_value_L1) (F : Loop3) : Loop3 := fun a s γ K => match a, s with
  | [AVal.ref 0 0, AVal.loc 2 0, AVal.loc 3 0, AVal.dat (Dat.sl v_), AVal.dat (Dat.int IntKind.i64 v__1)], ([AVal.dat (Dat.int IntKind.u64 v_n), AVal.dat (Dat.int IntKind.i64 v__2), AVal.agg [(Dat.int IntKind.i64 v_box0, Own.none), (Dat.int IntKind.i64 v_box1, Own.none), (Dat.str v_box2, Own.none)], AVal.agg [(Dat.int IntKind.i64 v_box0_1, Own.none), (Dat.int IntKind.i64 v_box1_1, Own.none), (Dat.str v_box2_1, Own.none)]], [Box.cells [AVal.dat (Dat.sl b0), AVal.dat (Dat.int IntKind.i64 b1), AVal.dat (Dat.bool b2)]]) => X v_ v__1 v_n v__2 v_box0 v_box1 v_box2 v_box0_1 v_box1_1 v_box2_1 b0 b1 b2 γ (fun e x0 x1 x2 x3 x4 x5 x6 x7 x8 x9 x10 => K (e, ([AVal.dat (Dat.int IntKind.u64 x0), AVal.dat (Dat.int IntKind.i64 x1), AVal.agg [(Dat.int IntKind.i64 x2, Own.none), (Dat.int IntKind.i64 x3, Own.none), (Dat.str x4, Own.none)], AVal.agg [(Dat.int IntKind.i64 x5, Own.none), (Dat.int IntKind.i64 x6, Own.none), (Dat.str x7, Own.none)]], [Box.cells [AVal.dat (Dat.sl x8), AVal.dat (Dat.int IntKind.i64 x9), AVal.dat (Dat.bool x10)]])))
  | a, s => F a s γ K
def T_row_reader_value_L1  : CallK := noneK
def L_row_reader_value_L1  : LoopK := noneL
def Sp.B_row_reader_value_L1 (x_row_reader_value_L1 : Ty_row_reader_value_L1)  (v_ : List (List Dat)) (v__1 v_n v__2 v_box0 v_box1 : Int) (v_box2 : ByteArray) (v_box0_1 v_box1_1 : Int) (v_box2_1 : ByteArray) (b0 : List (List Dat)) (b1 : Int) (b2 : Bool) (γ : Type) (K : Ex → Int → Int → Int → Int → ByteArray → Int → Int → ByteArray → List (List Dat) → Int → Bool → Option γ) : Option γ := bif decide (v__2 < v__1) then elemAt v_ v__2 fun (z15 : List Dat) => bif List.length z15 == 1 then cellAt z15 0 fun (z16 : Dat) => Aev.asInt IntKind.u8 z16 fun (z17 : Int) => x_row_reader_value_L1 v_ v__1 (IntKind.wrap IntKind.u64 (Int.ofNat (BitVec.toFin (BitVec.ofInt (IntKind.bits IntKind.u64) (IntKind.wrap IntKind.u64 (v_n * 256)) ||| BitVec.ofInt (IntKind.bits IntKind.u64) (IntKind.wrap IntKind.u64 z17))).1)) (IntKind.wrap IntKind.i64 (v__2 + 1)) v_box0 v_box1 v_box2 v_box0_1 v_box1_1 v_box2_1 b0 b1 b2 γ K else none else K (Ex.exit 1) v_n v__2 v_box0 v_box1 v_box2 v_box0_1 v_box1_1 v_box2_1 b0 b1 b2
theorem e_row_reader_value_L1 (p : Par) (x_row_reader_value_L1 : Ty_row_reader_value_L1) (v_ v__1 v_n v__2 v_box0 v_box1 v_box2 v_box0_1 v_box1_1 v_box2_1 b0 b1 b2) (γ : Type) (K : Ex × Vars → Option γ) : roundK (cfgY p) (T_row_reader_value_L1 ) (L_row_reader_value_L1 ) 131 1 [AVal.ref 0 0, AVal.loc 2 0, AVal.loc 3 0, AVal.dat (Dat.sl v_), AVal.dat (Dat.int IntKind.i64 v__1)] ([AVal.dat (Dat.int IntKind.u64 v_n), AVal.dat (Dat.int IntKind.i64 v__2), AVal.agg [(Dat.int IntKind.i64 v_box0, Own.none), (Dat.int IntKind.i64 v_box1, Own.none), (Dat.str v_box2, Own.none)], AVal.agg [(Dat.int IntKind.i64 v_box0_1, Own.none), (Dat.int IntKind.i64 v_box1_1, Own.none), (Dat.str v_box2_1, Own.none)]], [Box.cells [AVal.dat (Dat.sl b0), AVal.dat (Dat.int IntKind.i64 b1), AVal.dat (Dat.bool b2)]]) γ (contL (fun v => P_row_reader_value_L1 x_row_reader_value_L1 noneL3 [AVal.ref 0 0, AVal.loc 2 0, AVal.loc 3 0, AVal.dat (Dat.sl v_), AVal.dat (Dat.int IntKind.i64 v__1)] v γ K) K) = Sp.B_row_reader_value_L1 x_row_reader_value_L1  v_ v__1 v_n v__2 v_box0 v_box1 v_box2 v_box0_1 v_box1_1 v_box2_1 b0 b1 b2 γ (fun e x0 x1 x2 x3 x4 x5 x6 x7 x8 x9 x10 => K (e, ([AVal.dat (Dat.int IntKind.u64 x0), AVal.dat (Dat.int IntKind.i64 x1), AVal.agg [(Dat.int IntKind.i64 x2, Own.none), (Dat.int IntKind.i64 x3, Own.none), (Dat.str x4, Own.none)], AVal.agg [(Dat.int IntKind.i64 x5, Own.none), (Dat.int IntKind.i64 x6, Own.none), (Dat.str x7, Own.none)]], [Box.cells [AVal.dat (Dat.sl x8), AVal.dat (Dat.int IntKind.i64 x9), AVal.dat (Dat.bool x10)]]))) := by kernel_rfl
def Sp.row_reader_value_L1 : Nat → Ty_row_reader_value_L1
  | 0 => fun _ _ _ _ _ _ _ _ _ _ _ _ _ _ _ => none
  | n + 1 => Sp.B_row_reader_value_L1 (Sp.row_reader_value_L1 n) 
theorem E0_row_reader_value_L1 (p : Par)   : ∀ n, EntOkL (cfgY p) 131 1 (P_row_reader_value_L1 (Sp.row_reader_value_L1  n) noneL3) := entL_rounds (tab_nil _) (by kernel_rfl) (fun c v γ K => by unfold P_row_reader_value_L1; split <;> rfl) fun n c v γ K q h => by
  unfold P_row_reader_value_L1 at h
  split at h
  · exact (e_row_reader_value_L1 p _  _ _ _ _ _ _ _ _ _ _ _ _ _ _ _).trans h
  · cases h
theorem E_row_reader_value_L1 (p : Par)   (n : Nat) {F : Loop3} (hF : EntOkL (cfgY p) 131 1 F) : EntOkL (cfgY p) 131 1 (P_row_reader_value_L1 (Sp.row_reader_value_L1  n) F) := by
  intro c v γ K q h
  unfold P_row_reader_value_L1 at h
  split at h
  · exact E0_row_reader_value_L1 p   n _ _ _ _ _ h
  · exact hF _ _ _ _ _ h
abbrev Ty_row_reader_value : Type 1 := List (List Dat) → Int → Bool → (γ : Type) → (Int → Int → ByteArray → List (List Dat) → Int → Bool → Option γ) → Option γ
def P_row_reader_value (X : Ty_row_reader_value) (F : Ent3) : Ent3 := fun a s γ K => match a, s with
  | [AVal.ref 0 0], [Box.cells [AVal.dat (Dat.sl b0), AVal.dat (Dat.int IntKind.i64 b1), AVal.dat (Dat.bool b2)]] => X b0 b1 b2 γ (fun r0 r1 r2 r3 r4 r5 => K ([(AVal.agg [(Dat.int IntKind.i64 r0, Own.none), (Dat.int IntKind.i64 r1, Own.none), (Dat.str r2, Own.none)], Own.none)], [Box.cells [AVal.dat (Dat.sl r3), AVal.dat (Dat.int IntKind.i64 r4), AVal.dat (Dat.bool r5)]]))
  | a, s => F a s γ K
def T_row_reader_value (x_row_reader_byte : Ty_row_reader_byte) (x_value_Check : Ty_value_Check) (x_row_reader_next : Ty_row_reader_next) (x_row_reader_value_L1 : Ty_row_reader_value_L1) : CallK := (addK (addK (addK noneK 130 (P_row_reader_byte x_row_reader_byte none3)) 77 (P_value_Check x_value_Check none3)) 144 (P_row_reader_next x_row_reader_next none3))
def L_row_reader_value (x_row_reader_byte : Ty_row_reader_byte) (x_value_Check : Ty_value_Check) (x_row_reader_next : Ty_row_reader_next) (x_row_reader_value_L1 : Ty_row_reader_value_L1) : LoopK := (addL noneL 131 1 (P_row_reader_value_L1 x_row_reader_value_L1 noneL3))
def Sp.B_row_reader_value (x_row_reader_byte : Ty_row_reader_byte) (x_value_Check : Ty_value_Check) (x_row_reader_next : Ty_row_reader_next) (x_row_reader_value_L1 : Ty_row_reader_value_L1) (b0 : List (List Dat)) (b1 : Int) (b2 : Bool) (γ : Type) (K : Int → Int → ByteArray → List (List Dat) → Int → Bool → Option γ) : Option γ := x_row_reader_byte b0 b1 b2 γ fun (z5 : Int) (z6 : List (List Dat)) (z7 : Int) (z8 : Bool) =>
    bif decide (z5 = 1) then x_row_reader_byte z6 z7 z8 γ fun (z9 : Int) (z10 : List (List Dat)) (z11 : Int) (z12 : Bool) => bif z12 then K z5 z9 (bs []) z10 z11 true else x_value_Check z5 z9 (bs []) γ fun (z13 : Int) => K z5 z9 (bs []) z10 z11 !decide (z13 = 0)
    else
      bif decide (z5 = 2) then x_row_reader_next 7 z6 z7 z8 γ fun (z14 z15 : List (List Dat)) (z16 : Int) (z17 : Bool) => x_row_reader_value_L1 z14 (Int.ofNat (List.length z14)) 0 0 0 0 (bs []) z5 0 (bs []) z15 z16 z17 γ fun (z18 : Ex) (z19 z20 z21 z22 : Int) (z23 : ByteArray) (z24 z25 : Int) (z26 : ByteArray) (z27 : List (List Dat)) (z28 : Int) (z29 : Bool) => bif Ex.isExit z18 1 then bif z29 then K z24 (IntKind.wrap IntKind.i64 (IntKind.wrap IntKind.i64 z19 - 9007199254740992)) z26 z27 z28 true else x_value_Check z24 (IntKind.wrap IntKind.i64 (IntKind.wrap IntKind.i64 z19 - 9007199254740992)) z26 γ fun (z30 : Int) => K z24 (IntKind.wrap IntKind.i64 (IntKind.wrap IntKind.i64 z19 - 9007199254740992)) z26 z27 z28 !decide (z30 = 0) else bif Ex.isRet z18 then K z21 z22 z23 z27 z28 z29 else none
      else
        bif decide (z5 = 3) then
          x_row_reader_byte z6 z7 z8 γ fun (z31 : Int) (z32 : List (List Dat)) (z33 : Int) (z34 : Bool) =>
            x_row_reader_next z31 z32 z33 z34 γ fun (z35 z36 : List (List Dat)) (z37 : Int) (z38 : Bool) =>
              match esBytes z35 with
              | some z40 => bif z38 then K z5 0 (ByteArray.mk (Array.mk z40)) z36 z37 true else x_value_Check z5 0 (ByteArray.mk (Array.mk z40)) γ fun (z41 : Int) => K z5 0 (ByteArray.mk (Array.mk z40)) z36 z37 !decide (z41 = 0)
              | none => none
        else bif z8 then K z5 0 (bs []) z6 z7 true else x_value_Check z5 0 (bs []) γ fun (z43 : Int) => K z5 0 (bs []) z6 z7 !decide (z43 = 0)
theorem e_row_reader_value (p : Par) (x_row_reader_byte x_value_Check x_row_reader_next x_row_reader_value_L1 b0 b1 b2) (γ : Type) (K : List Ent × Sig → Option γ) : evFK (cfgY p) (T_row_reader_value x_row_reader_byte x_value_Check x_row_reader_next x_row_reader_value_L1) (L_row_reader_value x_row_reader_byte x_value_Check x_row_reader_next x_row_reader_value_L1) 131 [AVal.ref 0 0] [Box.cells [AVal.dat (Dat.sl b0), AVal.dat (Dat.int IntKind.i64 b1), AVal.dat (Dat.bool b2)]] γ K = Sp.B_row_reader_value x_row_reader_byte x_value_Check x_row_reader_next x_row_reader_value_L1 b0 b1 b2 γ (fun r0 r1 r2 r3 r4 r5 => K ([(AVal.agg [(Dat.int IntKind.i64 r0, Own.none), (Dat.int IntKind.i64 r1, Own.none), (Dat.str r2, Own.none)], Own.none)], [Box.cells [AVal.dat (Dat.sl r3), AVal.dat (Dat.int IntKind.i64 r4), AVal.dat (Dat.bool r5)]])) := by kernel_rfl
def Sp.row_reader_value : Ty_row_reader_value := Sp.B_row_reader_value Sp.row_reader_byte Sp.value_Check Sp.row_reader_next (Sp.row_reader_value_L1 fuel)
theorem E_row_reader_value (p : Par) {F : Ent3} (hF : EntOk (cfgY p) 131 F) : EntOk (cfgY p) 131 (P_row_reader_value Sp.row_reader_value F) := by
  intro a s γ K q h
  unfold P_row_reader_value at h
  split at h
  · exact body_ok (tab_loop (tab_call (tab_call (tab_call (tab_nil _) (E_row_reader_byte p (ent_none _ _))) (E_value_Check p (ent_none _ _))) (E_row_reader_next p (ent_none _ _))) (E_row_reader_value_L1 p fuel (entL_none _ _ _))) rfl ((e_row_reader_value p _ _ _ _ _ _ _ _ _).trans h)
  · exact hF _ _ _ _ _ h
abbrev Ty_row_Get_L0 : Type 1 := Int → List (List Dat) → Int → List (List Dat) → Int → Bool → (γ : Type) → (Ex → List (List Dat) → Int → List (List Dat) → Int → Bool → Option γ) → Option γ
def P_row_Get_L0 (X : Ty_row_Get_L0) (F : Loop3) : Loop3 := fun a s γ K => match a, s with
  | [AVal.ref 0 0, AVal.dat (Dat.int IntKind.i64 v_n)], ([AVal.dat (Dat.sl v_out), AVal.dat (Dat.int IntKind.i64 v_i)], [Box.cells [AVal.dat (Dat.sl b0), AVal.dat (Dat.int IntKind.i64 b1), AVal.dat (Dat.bool b2)]]) => X v_n v_out v_i b0 b1 b2 γ (fun e x0 x1 x2 x3 x4 => K (e, ([AVal.dat (Dat.sl x0), AVal.dat (Dat.int IntKind.i64 x1)], [Box.cells [AVal.dat (Dat.sl x2), AVal.dat (Dat.int IntKind.i64 x3), AVal.dat (Dat.bool x4)]])))
  | a, s => F a s γ K
def T_row_Get_L0 (x_row_reader_value : Ty_row_reader_value) : CallK := (addK noneK 131 (P_row_reader_value x_row_reader_value none3))
def L_row_Get_L0 (x_row_reader_value : Ty_row_reader_value) : LoopK := noneL
def Sp.B_row_Get_L0 (x_row_Get_L0 : Ty_row_Get_L0) (x_row_reader_value : Ty_row_reader_value) (v_n : Int) (v_out : List (List Dat)) (v_i : Int) (b0 : List (List Dat)) (b1 : Int) (b2 : Bool) (γ : Type) (K : Ex → List (List Dat) → Int → List (List Dat) → Int → Bool → Option γ) : Option γ := bif sized v_out 3 then bif decide (v_i < v_n) then bif decide (v_n ≤ 32) then bif !b2 then x_row_reader_value b0 b1 b2 γ fun (z8 z9 : Int) (z10 : ByteArray) (z11 : List (List Dat)) (z12 : Int) (z13 : Bool) => bif sized v_out 3 && true && true && decide ((List.length v_out + 1) * 33 ≤ 70368744177664) && true then x_row_Get_L0 v_n (v_out ++ [[Dat.int IntKind.i64 z8, Dat.int IntKind.i64 z9, Dat.str z10]]) (IntKind.wrap IntKind.i64 (v_i + 1)) z11 z12 z13 γ K else none else K (Ex.exit 0) v_out v_i b0 b1 b2 else K (Ex.exit 0) v_out v_i b0 b1 b2 else K (Ex.exit 0) v_out v_i b0 b1 b2 else none
theorem e_row_Get_L0 (p : Par) (x_row_Get_L0 : Ty_row_Get_L0) (x_row_reader_value v_n v_out v_i b0 b1 b2) (γ : Type) (K : Ex × Vars → Option γ) : roundK (cfgY p) (T_row_Get_L0 x_row_reader_value) (L_row_Get_L0 x_row_reader_value) 111 0 [AVal.ref 0 0, AVal.dat (Dat.int IntKind.i64 v_n)] ([AVal.dat (Dat.sl v_out), AVal.dat (Dat.int IntKind.i64 v_i)], [Box.cells [AVal.dat (Dat.sl b0), AVal.dat (Dat.int IntKind.i64 b1), AVal.dat (Dat.bool b2)]]) γ (contL (fun v => P_row_Get_L0 x_row_Get_L0 noneL3 [AVal.ref 0 0, AVal.dat (Dat.int IntKind.i64 v_n)] v γ K) K) = Sp.B_row_Get_L0 x_row_Get_L0 x_row_reader_value v_n v_out v_i b0 b1 b2 γ (fun e x0 x1 x2 x3 x4 => K (e, ([AVal.dat (Dat.sl x0), AVal.dat (Dat.int IntKind.i64 x1)], [Box.cells [AVal.dat (Dat.sl x2), AVal.dat (Dat.int IntKind.i64 x3), AVal.dat (Dat.bool x4)]]))) := by kernel_rfl
def Sp.row_Get_L0 : Nat → Ty_row_Get_L0
  | 0 => fun _ _ _ _ _ _ _ _ => none
  | n + 1 => Sp.B_row_Get_L0 (Sp.row_Get_L0 n) Sp.row_reader_value
theorem E0_row_Get_L0 (p : Par)   : ∀ n, EntOkL (cfgY p) 111 0 (P_row_Get_L0 (Sp.row_Get_L0  n) noneL3) := entL_rounds (tab_call (tab_nil _) (E_row_reader_value p (ent_none _ _))) (by kernel_rfl) (fun c v γ K => by unfold P_row_Get_L0; split <;> rfl) fun n c v γ K q h => by
  unfold P_row_Get_L0 at h
  split at h
  · exact (e_row_Get_L0 p _ _ _ _ _ _ _ _ _ _).trans h
  · cases h
theorem E_row_Get_L0 (p : Par)   (n : Nat) {F : Loop3} (hF : EntOkL (cfgY p) 111 0 F) : EntOkL (cfgY p) 111 0 (P_row_Get_L0 (Sp.row_Get_L0  n) F) := by
  intro c v γ K q h
  unfold P_row_Get_L0 at h
  split at h
  · exact E0_row_Get_L0 p   n _ _ _ _ _ h
  · exact hF _ _ _ _ _ h
abbrev Ty_row_Get : Type 1 := List (List Dat) → (γ : Type) → (List (List Dat) → Int → Int → Option γ) → Option γ
def P_row_Get (X : Ty_row_Get) (F : Ent3) : Ent3 := fun a s γ K => match a, s with
  | [AVal.dat (Dat.sl v_b)], [] => X v_b γ (fun r0 r1 r2 => K ([(AVal.dat (Dat.sl r0), Own.none), (AVal.dat (Dat.int IntKind.i64 r1), Own.none), (AVal.dat (Dat.int IntKind.i64 r2), Own.none)], []))
  | a, s => F a s γ K
def T_row_Get (x_row_reader_byte : Ty_row_reader_byte) (x_row_Get_L0 : Ty_row_Get_L0) : CallK := (addK noneK 130 (P_row_reader_byte x_row_reader_byte none3))
def L_row_Get (x_row_reader_byte : Ty_row_reader_byte) (x_row_Get_L0 : Ty_row_Get_L0) : LoopK := (addL noneL 111 0 (P_row_Get_L0 x_row_Get_L0 noneL3))
def Sp.B_row_Get (x_row_reader_byte : Ty_row_reader_byte) (x_row_Get_L0 : Ty_row_Get_L0) (v_b : List (List Dat)) (γ : Type) (K : List (List Dat) → Int → Int → Option γ) : Option γ := x_row_reader_byte v_b 0 false γ fun (z3 : Int) (z4 : List (List Dat)) (z5 : Int) (z6 : Bool) => x_row_Get_L0 z3 [] 0 z4 z5 z6 γ fun (z7 : Ex) (z8 : List (List Dat)) (z9 : Int) (z10 : List (List Dat)) (z11 : Int) (z12 : Bool) => bif sized z8 3 then bif Ex.isExit z7 0 then bif z12 then K [] 0 20 else bif decide (32 < z3) then K [] 0 20 else K z8 z11 0 else bif Ex.isRet z7 then none else none else none
theorem e_row_Get (p : Par) (x_row_reader_byte x_row_Get_L0 v_b) (γ : Type) (K : List Ent × Sig → Option γ) : evFK (cfgY p) (T_row_Get x_row_reader_byte x_row_Get_L0) (L_row_Get x_row_reader_byte x_row_Get_L0) 111 [AVal.dat (Dat.sl v_b)] [] γ K = Sp.B_row_Get x_row_reader_byte x_row_Get_L0 v_b γ (fun r0 r1 r2 => K ([(AVal.dat (Dat.sl r0), Own.none), (AVal.dat (Dat.int IntKind.i64 r1), Own.none), (AVal.dat (Dat.int IntKind.i64 r2), Own.none)], [])) := by kernel_rfl
def Sp.row_Get : Ty_row_Get := Sp.B_row_Get Sp.row_reader_byte (Sp.row_Get_L0 fuel)
theorem E_row_Get (p : Par) {F : Ent3} (hF : EntOk (cfgY p) 111 F) : EntOk (cfgY p) 111 (P_row_Get Sp.row_Get F) := by
  intro a s γ K q h
  unfold P_row_Get at h
  split at h
  · exact body_ok (tab_loop (tab_call (tab_nil _) (E_row_reader_byte p (ent_none _ _))) (E_row_Get_L0 p fuel (entL_none _ _ _))) rfl ((e_row_Get p _ _ _ _ _).trans h)
  · exact hF _ _ _ _ _ h
abbrev Ty_page_start : Type 1 := List (List Dat) → Int → (γ : Type) → (Int → Option γ) → Option γ
def P_page_start (X : Ty_page_start) (F : Ent3) : Ent3 := fun a s γ K => match a, s with
  | [AVal.dat (Dat.sl v_p), AVal.dat (Dat.int IntKind.i64 v_i)], [] => X v_p v_i γ (fun r0 => K ([(AVal.dat (Dat.int IntKind.i64 r0), Own.none)], []))
  | a, s => F a s γ K
def T_page_start  : CallK := noneK
def L_page_start  : LoopK := noneL
def Sp.B_page_start  (v_p : List (List Dat)) (v_i : Int) (γ : Type) (K : Int → Option γ) : Option γ := elemAt v_p (IntKind.wrap IntKind.i64 (Int.ofNat (List.length v_p) - IntKind.wrap IntKind.i64 (2 * IntKind.wrap IntKind.i64 (v_i + 1)))) fun (z4 : List Dat) => bif List.length z4 == 1 then cellAt z4 0 fun (z5 : Dat) => Aev.asInt IntKind.u8 z5 fun (z6 : Int) => elemAt v_p (IntKind.wrap IntKind.i64 (IntKind.wrap IntKind.i64 (Int.ofNat (List.length v_p) - IntKind.wrap IntKind.i64 (2 * IntKind.wrap IntKind.i64 (v_i + 1))) + 1)) fun (z7 : List Dat) => bif List.length z7 == 1 then cellAt z7 0 fun (z8 : Dat) => Aev.asInt IntKind.u8 z8 fun (z9 : Int) => K (IntKind.wrap IntKind.i64 (Int.ofNat (BitVec.toFin (BitVec.ofInt (IntKind.bits IntKind.i64) (IntKind.wrap IntKind.i64 (IntKind.wrap IntKind.i64 z6 * 256)) ||| BitVec.ofInt (IntKind.bits IntKind.i64) (IntKind.wrap IntKind.i64 z9))).1)) else none else none
theorem e_page_start (p : Par) (v_p v_i) (γ : Type) (K : List Ent × Sig → Option γ) : evFK (cfgY p) (T_page_start ) (L_page_start ) 112 [AVal.dat (Dat.sl v_p), AVal.dat (Dat.int IntKind.i64 v_i)] [] γ K = Sp.B_page_start  v_p v_i γ (fun r0 => K ([(AVal.dat (Dat.int IntKind.i64 r0), Own.none)], [])) := by kernel_rfl
def Sp.page_start : Ty_page_start := Sp.B_page_start 
theorem E_page_start (p : Par) {F : Ent3} (hF : EntOk (cfgY p) 112 F) : EntOk (cfgY p) 112 (P_page_start Sp.page_start F) := by
  intro a s γ K q h
  unfold P_page_start at h
  split at h
  · exact body_ok (tab_nil _) rfl ((e_page_start p  _ _ _ _).trans h)
  · exact hF _ _ _ _ _ h
abbrev Ty_page_scan_L0 : Type 1 := List (List Dat) → Int → Int → List (List Dat) → Int → Int → Int → List (List Dat) → Int → (γ : Type) → (Ex → List (List Dat) → Int → Int → Int → List (List Dat) → Int → Option γ) → Option γ
def P_page_scan_L0 (X : Ty_page_scan_L0) (F : Loop3) : Loop3 := fun a s γ K => match a, s with
  | [AVal.dat (Dat.sl v_p), AVal.dat (Dat.int IntKind.i64 v_end), AVal.dat (Dat.int IntKind.i64 v_)], ([AVal.dat (Dat.sl v__1), AVal.dat (Dat.int IntKind.i64 v__2), AVal.dat (Dat.int IntKind.i64 v__3), AVal.dat (Dat.int IntKind.i64 v_at), AVal.dat (Dat.sl v_out), AVal.dat (Dat.int IntKind.i64 v__4)], []) => X v_p v_end v_ v__1 v__2 v__3 v_at v_out v__4 γ (fun e x0 x1 x2 x3 x4 x5 => K (e, ([AVal.dat (Dat.sl x0), AVal.dat (Dat.int IntKind.i64 x1), AVal.dat (Dat.int IntKind.i64 x2), AVal.dat (Dat.int IntKind.i64 x3), AVal.dat (Dat.sl x4), AVal.dat (Dat.int IntKind.i64 x5)], [])))
  | a, s => F a s γ K
def T_page_scan_L0 (x_row_Get : Ty_row_Get) (x_page_start : Ty_page_start) : CallK := (addK (addK noneK 111 (P_row_Get x_row_Get none3)) 112 (P_page_start x_page_start none3))
def L_page_scan_L0 (x_row_Get : Ty_row_Get) (x_page_start : Ty_page_start) : LoopK := noneL
def Sp.B_page_scan_L0 (x_page_scan_L0 : Ty_page_scan_L0) (x_row_Get : Ty_row_Get) (x_page_start : Ty_page_start) (v_p : List (List Dat)) (v_end v_ : Int) (v__1 : List (List Dat)) (v__2 v__3 v_at : Int) (v_out : List (List Dat)) (v__4 : Int) (γ : Type) (K : Ex → List (List Dat) → Int → Int → Int → List (List Dat) → Int → Option γ) : Option γ := bif sized v__1 1 then bif sized v_out 1 then bif decide (v__4 < v_) then bif decide (0 ≤ v_at) && decide (v_at ≤ v_end) && decide (v_end ≤ Int.ofNat (List.length v_p)) && decide (v_end = v_end) && sized v_p 1 then x_row_Get (List.drop (Int.toNat v_at) (List.take (Int.toNat v_end) v_p)) γ fun (z11 : List (List Dat)) (z12 z13 : Int) => bif !decide (z13 = 0) then K Ex.ret [] 0 40 v_at v_out v__4 else x_page_start v_p v__4 γ fun (z14 : Int) => bif !decide (z14 = v_at) then K Ex.ret [] 0 40 v_at v_out v__4 else bif sized v_out 1 && true && true && decide ((List.length v_out + 1) * 25 ≤ 70368744177664) && true then x_page_scan_L0 v_p v_end v_ v__1 v__2 v__3 (IntKind.wrap IntKind.i64 (v_at + z12)) (v_out ++ [[Dat.sl z11]]) (IntKind.wrap IntKind.i64 (v__4 + 1)) γ K else none else none else K (Ex.exit 0) v__1 v__2 v__3 v_at v_out v__4 else none else none
theorem e_page_scan_L0 (p : Par) (x_page_scan_L0 : Ty_page_scan_L0) (x_row_Get x_page_start v_p v_end v_ v__1 v__2 v__3 v_at v_out v__4) (γ : Type) (K : Ex × Vars → Option γ) : roundK (cfgY p) (T_page_scan_L0 x_row_Get x_page_start) (L_page_scan_L0 x_row_Get x_page_start) 100 0 [AVal.dat (Dat.sl v_p), AVal.dat (Dat.int IntKind.i64 v_end), AVal.dat (Dat.int IntKind.i64 v_)] ([AVal.dat (Dat.sl v__1), AVal.dat (Dat.int IntKind.i64 v__2), AVal.dat (Dat.int IntKind.i64 v__3), AVal.dat (Dat.int IntKind.i64 v_at), AVal.dat (Dat.sl v_out), AVal.dat (Dat.int IntKind.i64 v__4)], []) γ (contL (fun v => P_page_scan_L0 x_page_scan_L0 noneL3 [AVal.dat (Dat.sl v_p), AVal.dat (Dat.int IntKind.i64 v_end), AVal.dat (Dat.int IntKind.i64 v_)] v γ K) K) = Sp.B_page_scan_L0 x_page_scan_L0 x_row_Get x_page_start v_p v_end v_ v__1 v__2 v__3 v_at v_out v__4 γ (fun e x0 x1 x2 x3 x4 x5 => K (e, ([AVal.dat (Dat.sl x0), AVal.dat (Dat.int IntKind.i64 x1), AVal.dat (Dat.int IntKind.i64 x2), AVal.dat (Dat.int IntKind.i64 x3), AVal.dat (Dat.sl x4), AVal.dat (Dat.int IntKind.i64 x5)], []))) := by kernel_rfl
def Sp.page_scan_L0 : Nat → Ty_page_scan_L0
  | 0 => fun _ _ _ _ _ _ _ _ _ _ _ => none
  | n + 1 => Sp.B_page_scan_L0 (Sp.page_scan_L0 n) Sp.row_Get Sp.page_start
theorem E0_page_scan_L0 (p : Par)   : ∀ n, EntOkL (cfgY p) 100 0 (P_page_scan_L0 (Sp.page_scan_L0  n) noneL3) := entL_rounds (tab_call (tab_call (tab_nil _) (E_row_Get p (ent_none _ _))) (E_page_start p (ent_none _ _))) (by kernel_rfl) (fun c v γ K => by unfold P_page_scan_L0; split <;> rfl) fun n c v γ K q h => by
  unfold P_page_scan_L0 at h
  split at h
  · exact (e_page_scan_L0 p _ _ _ _ _ _ _ _ _ _ _ _ _ _).trans h
  · cases h
theorem E_page_scan_L0 (p : Par)   (n : Nat) {F : Loop3} (hF : EntOkL (cfgY p) 100 0 F) : EntOkL (cfgY p) 100 0 (P_page_scan_L0 (Sp.page_scan_L0  n) F) := by
  intro c v γ K q h
  unfold P_page_scan_L0 at h
  split at h
  · exact E0_page_scan_L0 p   n _ _ _ _ _ h
  · exact hF _ _ _ _ _ h
abbrev Ty_page_scan_1 : Type 1 := Int → (γ : Type) → (Bool → Option γ) → Option γ
def P_page_scan_1 (X : Ty_page_scan_1) (F : Ent3) : Ent3 := fun a s γ K => match a, s with
  | [AVal.dat (Dat.int IntKind.u8 v_c)], [] => X v_c γ (fun r0 => K ([(AVal.dat (Dat.bool r0), Own.none)], []))
  | a, s => F a s γ K
def T_page_scan_1  : CallK := noneK
def L_page_scan_1  : LoopK := noneL
def Sp.B_page_scan_1  (v_c : Int) (γ : Type) (K : Bool → Option γ) : Option γ := K !decide (v_c = 0)
theorem e_page_scan_1 (p : Par) (v_c) (γ : Type) (K : List Ent × Sig → Option γ) : evFK (cfgY p) (T_page_scan_1 ) (L_page_scan_1 ) 114 [AVal.dat (Dat.int IntKind.u8 v_c)] [] γ K = Sp.B_page_scan_1  v_c γ (fun r0 => K ([(AVal.dat (Dat.bool r0), Own.none)], [])) := by kernel_rfl
def Sp.page_scan_1 : Ty_page_scan_1 := Sp.B_page_scan_1 
theorem E_page_scan_1 (p : Par) {F : Ent3} (hF : EntOk (cfgY p) 114 F) : EntOk (cfgY p) 114 (P_page_scan_1 Sp.page_scan_1 F) := by
  intro a s γ K q h
  unfold P_page_scan_1 at h
  split at h
  · exact body_ok (tab_nil _) rfl ((e_page_scan_1 p  _ _ _).trans h)
  · exact hF _ _ _ _ _ h
abbrev Ty_slices_IndexFunc_byte_byte_L0 : Type 1 := List (List Dat) → Int → Int → Int → (γ : Type) → (Ex → Int → Int → Option γ) → Option γ
def P_slices_IndexFunc_byte_byte_L0 (X : Ty_slices_IndexFunc_byte_byte_L0) (F : Loop3) : Loop3 := fun a s γ K => match a, s with
  | [AVal.dat (Dat.sl v_s), AVal.clo (Fn.func 114) [] [], AVal.dat (Dat.int IntKind.i64 v_)], ([AVal.dat (Dat.int IntKind.i64 v__1), AVal.dat (Dat.int IntKind.i64 v__2)], []) => X v_s v_ v__1 v__2 γ (fun e x0 x1 => K (e, ([AVal.dat (Dat.int IntKind.i64 x0), AVal.dat (Dat.int IntKind.i64 x1)], [])))
  | a, s => F a s γ K
def T_slices_IndexFunc_byte_byte_L0 (x_page_scan_1 : Ty_page_scan_1) : CallK := (addK noneK 114 (P_page_scan_1 x_page_scan_1 none3))
def L_slices_IndexFunc_byte_byte_L0 (x_page_scan_1 : Ty_page_scan_1) : LoopK := noneL
def Sp.B_slices_IndexFunc_byte_byte_L0 (x_slices_IndexFunc_byte_byte_L0 : Ty_slices_IndexFunc_byte_byte_L0) (x_page_scan_1 : Ty_page_scan_1) (v_s : List (List Dat)) (v_ v__1 v__2 : Int) (γ : Type) (K : Ex → Int → Int → Option γ) : Option γ := bif decide (v__2 < v_) then elemAt v_s v__2 fun (z6 : List Dat) => bif List.length z6 == 1 then cellAt z6 0 fun (z7 : Dat) => Aev.asInt IntKind.u8 z7 fun (z8 : Int) => x_page_scan_1 z8 γ fun (z9 : Bool) => bif z9 then K Ex.ret v__2 v__2 else x_slices_IndexFunc_byte_byte_L0 v_s v_ v__1 (IntKind.wrap IntKind.i64 (v__2 + 1)) γ K else none else K (Ex.exit 0) v__1 v__2
theorem e_slices_IndexFunc_byte_byte_L0 (p : Par) (x_slices_IndexFunc_byte_byte_L0 : Ty_slices_IndexFunc_byte_byte_L0) (x_page_scan_1 v_s v_ v__1 v__2) (γ : Type) (K : Ex × Vars → Option γ) : roundK (cfgY p) (T_slices_IndexFunc_byte_byte_L0 x_page_scan_1) (L_slices_IndexFunc_byte_byte_L0 x_page_scan_1) 132 0 [AVal.dat (Dat.sl v_s), AVal.clo (Fn.func 114) [] [], AVal.dat (Dat.int IntKind.i64 v_)] ([AVal.dat (Dat.int IntKind.i64 v__1), AVal.dat (Dat.int IntKind.i64 v__2)], []) γ (contL (fun v => P_slices_IndexFunc_byte_byte_L0 x_slices_IndexFunc_byte_byte_L0 noneL3 [AVal.dat (Dat.sl v_s), AVal.clo (Fn.func 114) [] [], AVal.dat (Dat.int IntKind.i64 v_)] v γ K) K) = Sp.B_slices_IndexFunc_byte_byte_L0 x_slices_IndexFunc_byte_byte_L0 x_page_scan_1 v_s v_ v__1 v__2 γ (fun e x0 x1 => K (e, ([AVal.dat (Dat.int IntKind.i64 x0), AVal.dat (Dat.int IntKind.i64 x1)], []))) := by kernel_rfl
def Sp.slices_IndexFunc_byte_byte_L0 : Nat → Ty_slices_IndexFunc_byte_byte_L0
  | 0 => fun _ _ _ _ _ _ => none
  | n + 1 => Sp.B_slices_IndexFunc_byte_byte_L0 (Sp.slices_IndexFunc_byte_byte_L0 n) Sp.page_scan_1
theorem E0_slices_IndexFunc_byte_byte_L0 (p : Par)   : ∀ n, EntOkL (cfgY p) 132 0 (P_slices_IndexFunc_byte_byte_L0 (Sp.slices_IndexFunc_byte_byte_L0  n) noneL3) := entL_rounds (tab_call (tab_nil _) (E_page_scan_1 p (ent_none _ _))) (by kernel_rfl) (fun c v γ K => by unfold P_slices_IndexFunc_byte_byte_L0; split <;> rfl) fun n c v γ K q h => by
  unfold P_slices_IndexFunc_byte_byte_L0 at h
  split at h
  · exact (e_slices_IndexFunc_byte_byte_L0 p _ _ _ _ _ _ _ _).trans h
  · cases h
theorem E_slices_IndexFunc_byte_byte_L0 (p : Par)   (n : Nat) {F : Loop3} (hF : EntOkL (cfgY p) 132 0 F) : EntOkL (cfgY p) 132 0 (P_slices_IndexFunc_byte_byte_L0 (Sp.slices_IndexFunc_byte_byte_L0  n) F) := by
  intro c v γ K q h
  unfold P_slices_IndexFunc_byte_byte_L0 at h
  split at h
  · exact E0_slices_IndexFunc_byte_byte_L0 p   n _ _ _ _ _ h
  · exact hF _ _ _ _ _ h
abbrev Ty_slices_IndexFunc_byte_byte : Type 1 := List (List Dat) → (γ : Type) → (Int → Option γ) → Option γ
def P_slices_IndexFunc_byte_byte (X : Ty_slices_IndexFunc_byte_byte) (F : Ent3) : Ent3 := fun a s γ K => match a, s with
  | [AVal.dat (Dat.sl v_s), AVal.clo (Fn.func 114) [] []], [] => X v_s γ (fun r0 => K ([(AVal.dat (Dat.int IntKind.i64 r0), Own.none)], []))
  | a, s => F a s γ K
def T_slices_IndexFunc_byte_byte (x_slices_IndexFunc_byte_byte_L0 : Ty_slices_IndexFunc_byte_byte_L0) : CallK := noneK
def L_slices_IndexFunc_byte_byte (x_slices_IndexFunc_byte_byte_L0 : Ty_slices_IndexFunc_byte_byte_L0) : LoopK := (addL noneL 132 0 (P_slices_IndexFunc_byte_byte_L0 x_slices_IndexFunc_byte_byte_L0 noneL3))
def Sp.B_slices_IndexFunc_byte_byte (x_slices_IndexFunc_byte_byte_L0 : Ty_slices_IndexFunc_byte_byte_L0) (v_s : List (List Dat)) (γ : Type) (K : Int → Option γ) : Option γ := x_slices_IndexFunc_byte_byte_L0 v_s (Int.ofNat (List.length v_s)) 0 0 γ fun (z3 : Ex) (z4 z5 : Int) => bif Ex.isExit z3 0 then K (-1) else bif Ex.isRet z3 then K z4 else none
theorem e_slices_IndexFunc_byte_byte (p : Par) (x_slices_IndexFunc_byte_byte_L0 v_s) (γ : Type) (K : List Ent × Sig → Option γ) : evFK (cfgY p) (T_slices_IndexFunc_byte_byte x_slices_IndexFunc_byte_byte_L0) (L_slices_IndexFunc_byte_byte x_slices_IndexFunc_byte_byte_L0) 132 [AVal.dat (Dat.sl v_s), AVal.clo (Fn.func 114) [] []] [] γ K = Sp.B_slices_IndexFunc_byte_byte x_slices_IndexFunc_byte_byte_L0 v_s γ (fun r0 => K ([(AVal.dat (Dat.int IntKind.i64 r0), Own.none)], [])) := by kernel_rfl
def Sp.slices_IndexFunc_byte_byte : Ty_slices_IndexFunc_byte_byte := Sp.B_slices_IndexFunc_byte_byte (Sp.slices_IndexFunc_byte_byte_L0 fuel)
theorem E_slices_IndexFunc_byte_byte (p : Par) {F : Ent3} (hF : EntOk (cfgY p) 132 F) : EntOk (cfgY p) 132 (P_slices_IndexFunc_byte_byte Sp.slices_IndexFunc_byte_byte F) := by
  intro a s γ K q h
  unfold P_slices_IndexFunc_byte_byte at h
  split at h
  · exact body_ok (tab_loop (tab_nil _) (E_slices_IndexFunc_byte_byte_L0 p fuel (entL_none _ _ _))) rfl ((e_slices_IndexFunc_byte_byte p _ _ _ _).trans h)
  · exact hF _ _ _ _ _ h
abbrev Ty_slices_ContainsFunc_byte_byte : Type 1 := List (List Dat) → (γ : Type) → (Bool → Option γ) → Option γ
def P_slices_ContainsFunc_byte_byte (X : Ty_slices_ContainsFunc_byte_byte) (F : Ent3) : Ent3 := fun a s γ K => match a, s with
  | [AVal.dat (Dat.sl v_s), AVal.clo (Fn.func 114) [] []], [] => X v_s γ (fun r0 => K ([(AVal.dat (Dat.bool r0), Own.none)], []))
  | a, s => F a s γ K
def T_slices_ContainsFunc_byte_byte (x_slices_IndexFunc_byte_byte : Ty_slices_IndexFunc_byte_byte) : CallK := (addK noneK 132 (P_slices_IndexFunc_byte_byte x_slices_IndexFunc_byte_byte none3))
def L_slices_ContainsFunc_byte_byte (x_slices_IndexFunc_byte_byte : Ty_slices_IndexFunc_byte_byte) : LoopK := noneL
def Sp.B_slices_ContainsFunc_byte_byte (x_slices_IndexFunc_byte_byte : Ty_slices_IndexFunc_byte_byte) (v_s : List (List Dat)) (γ : Type) (K : Bool → Option γ) : Option γ := x_slices_IndexFunc_byte_byte v_s γ fun (z3 : Int) => K (decide (0 ≤ z3))
theorem e_slices_ContainsFunc_byte_byte (p : Par) (x_slices_IndexFunc_byte_byte v_s) (γ : Type) (K : List Ent × Sig → Option γ) : evFK (cfgY p) (T_slices_ContainsFunc_byte_byte x_slices_IndexFunc_byte_byte) (L_slices_ContainsFunc_byte_byte x_slices_IndexFunc_byte_byte) 113 [AVal.dat (Dat.sl v_s), AVal.clo (Fn.func 114) [] []] [] γ K = Sp.B_slices_ContainsFunc_byte_byte x_slices_IndexFunc_byte_byte v_s γ (fun r0 => K ([(AVal.dat (Dat.bool r0), Own.none)], [])) := by kernel_rfl
def Sp.slices_ContainsFunc_byte_byte : Ty_slices_ContainsFunc_byte_byte := Sp.B_slices_ContainsFunc_byte_byte Sp.slices_IndexFunc_byte_byte
theorem E_slices_ContainsFunc_byte_byte (p : Par) {F : Ent3} (hF : EntOk (cfgY p) 113 F) : EntOk (cfgY p) 113 (P_slices_ContainsFunc_byte_byte Sp.slices_ContainsFunc_byte_byte F) := by
  intro a s γ K q h
  unfold P_slices_ContainsFunc_byte_byte at h
  split at h
  · exact body_ok (tab_call (tab_nil _) (E_slices_IndexFunc_byte_byte p (ent_none _ _))) rfl ((e_slices_ContainsFunc_byte_byte p _ _ _ _).trans h)
  · exact hF _ _ _ _ _ h
abbrev Ty_page_scan : Type 1 := List (List Dat) → (γ : Type) → (List (List Dat) → Int → Int → Option γ) → Option γ
def P_page_scan (X : Ty_page_scan) (F : Ent3) : Ent3 := fun a s γ K => match a, s with
  | [AVal.dat (Dat.sl v_p)], [] => X v_p γ (fun r0 r1 r2 => K ([(AVal.dat (Dat.sl r0), Own.none), (AVal.dat (Dat.int IntKind.i64 r1), Own.none), (AVal.dat (Dat.int IntKind.i64 r2), Own.none)], []))
  | a, s => F a s γ K
def T_page_scan (x_page_scan_L0 : Ty_page_scan_L0) (x_slices_ContainsFunc_byte_byte : Ty_slices_ContainsFunc_byte_byte) : CallK := (addK noneK 113 (P_slices_ContainsFunc_byte_byte x_slices_ContainsFunc_byte_byte none3))
def L_page_scan (x_page_scan_L0 : Ty_page_scan_L0) (x_slices_ContainsFunc_byte_byte : Ty_slices_ContainsFunc_byte_byte) : LoopK := (addL noneL 100 0 (P_page_scan_L0 x_page_scan_L0 noneL3))
def Sp.B_page_scan (x_page_scan_L0 : Ty_page_scan_L0) (x_slices_ContainsFunc_byte_byte : Ty_slices_ContainsFunc_byte_byte) (v_p : List (List Dat)) (γ : Type) (K : List (List Dat) → Int → Int → Option γ) : Option γ := bif !decide (Int.ofNat (List.length v_p) = 256) then K [] 0 40 else elemAt v_p 0 fun (z3 : List Dat) => bif List.length z3 == 1 then cellAt z3 0 fun (z4 : Dat) => Aev.asInt IntKind.u8 z4 fun (z5 : Int) => bif decide (IntKind.wrap IntKind.i64 (Int.ofNat (List.length v_p) - IntKind.wrap IntKind.i64 (2 * IntKind.wrap IntKind.i64 z5)) < 1) then K [] 0 40 else x_page_scan_L0 v_p (IntKind.wrap IntKind.i64 (Int.ofNat (List.length v_p) - IntKind.wrap IntKind.i64 (2 * IntKind.wrap IntKind.i64 z5))) (IntKind.wrap IntKind.i64 z5) [] 0 0 1 [] 0 γ fun (z6 : Ex) (z7 : List (List Dat)) (z8 z9 z10 : Int) (z11 : List (List Dat)) (z12 : Int) => bif sized z7 1 then bif sized z11 1 then bif Ex.isExit z6 0 then bif decide (0 ≤ z10) && decide (z10 ≤ IntKind.wrap IntKind.i64 (Int.ofNat (List.length v_p) - IntKind.wrap IntKind.i64 (2 * IntKind.wrap IntKind.i64 z5))) && decide (IntKind.wrap IntKind.i64 (Int.ofNat (List.length v_p) - IntKind.wrap IntKind.i64 (2 * IntKind.wrap IntKind.i64 z5)) ≤ Int.ofNat (List.length v_p)) && true && sized v_p 1 then x_slices_ContainsFunc_byte_byte (List.drop (Int.toNat z10) (List.take (Int.toNat (IntKind.wrap IntKind.i64 (Int.ofNat (List.length v_p) - IntKind.wrap IntKind.i64 (2 * IntKind.wrap IntKind.i64 z5)))) v_p)) γ fun (z13 : Bool) => bif z13 then K [] 0 40 else K z11 z10 0 else none else bif Ex.isRet z6 then K z7 z8 z9 else none else none else none else none
theorem e_page_scan (p : Par) (x_page_scan_L0 x_slices_ContainsFunc_byte_byte v_p) (γ : Type) (K : List Ent × Sig → Option γ) : evFK (cfgY p) (T_page_scan x_page_scan_L0 x_slices_ContainsFunc_byte_byte) (L_page_scan x_page_scan_L0 x_slices_ContainsFunc_byte_byte) 100 [AVal.dat (Dat.sl v_p)] [] γ K = Sp.B_page_scan x_page_scan_L0 x_slices_ContainsFunc_byte_byte v_p γ (fun r0 r1 r2 => K ([(AVal.dat (Dat.sl r0), Own.none), (AVal.dat (Dat.int IntKind.i64 r1), Own.none), (AVal.dat (Dat.int IntKind.i64 r2), Own.none)], [])) := by kernel_rfl
def Sp.page_scan : Ty_page_scan := Sp.B_page_scan (Sp.page_scan_L0 fuel) Sp.slices_ContainsFunc_byte_byte
theorem E_page_scan (p : Par) {F : Ent3} (hF : EntOk (cfgY p) 100 F) : EntOk (cfgY p) 100 (P_page_scan Sp.page_scan F) := by
  intro a s γ K q h
  unfold P_page_scan at h
  split at h
  · exact body_ok (tab_loop (tab_call (tab_nil _) (E_slices_ContainsFunc_byte_byte p (ent_none _ _))) (E_page_scan_L0 p fuel (entL_none _ _ _))) rfl ((e_page_scan p _ _ _ _ _).trans h)
  · exact hF _ _ _ _ _ h
abbrev Ty_row_Check_1 : Type 1 := Int → Int → ByteArray → (γ : Type) → (Bool → Option γ) → Option γ
def P_row_Check_1 (X : Ty_row_Check_1) (F : Ent3) : Ent3 := fun a s γ K => match a, s with
  | [AVal.agg [(Dat.int IntKind.i64 v_v0, Own.none), (Dat.int IntKind.i64 v_v1, Own.none), (Dat.str v_v2, Own.none)]], [] => X v_v0 v_v1 v_v2 γ (fun r0 => K ([(AVal.dat (Dat.bool r0), Own.none)], []))
  | a, s => F a s γ K
def T_row_Check_1 (x_value_Check : Ty_value_Check) : CallK := (addK noneK 77 (P_value_Check x_value_Check none3))
def L_row_Check_1 (x_value_Check : Ty_value_Check) : LoopK := noneL
def Sp.B_row_Check_1 (x_value_Check : Ty_value_Check) (v_v0 v_v1 : Int) (v_v2 : ByteArray) (γ : Type) (K : Bool → Option γ) : Option γ := x_value_Check v_v0 v_v1 v_v2 γ fun (z5 : Int) => K !decide (z5 = 0)
theorem e_row_Check_1 (p : Par) (x_value_Check v_v0 v_v1 v_v2) (γ : Type) (K : List Ent × Sig → Option γ) : evFK (cfgY p) (T_row_Check_1 x_value_Check) (L_row_Check_1 x_value_Check) 76 [AVal.agg [(Dat.int IntKind.i64 v_v0, Own.none), (Dat.int IntKind.i64 v_v1, Own.none), (Dat.str v_v2, Own.none)]] [] γ K = Sp.B_row_Check_1 x_value_Check v_v0 v_v1 v_v2 γ (fun r0 => K ([(AVal.dat (Dat.bool r0), Own.none)], [])) := by kernel_rfl
def Sp.row_Check_1 : Ty_row_Check_1 := Sp.B_row_Check_1 Sp.value_Check
theorem E_row_Check_1 (p : Par) {F : Ent3} (hF : EntOk (cfgY p) 76 F) : EntOk (cfgY p) 76 (P_row_Check_1 Sp.row_Check_1 F) := by
  intro a s γ K q h
  unfold P_row_Check_1 at h
  split at h
  · exact body_ok (tab_call (tab_nil _) (E_value_Check p (ent_none _ _))) rfl ((e_row_Check_1 p _ _ _ _ _ _).trans h)
  · exact hF _ _ _ _ _ h
abbrev Ty_slices_IndexFunc_api_Value_api_Value_L0 : Type 1 := List (List Dat) → Int → Int → Int → (γ : Type) → (Ex → Int → Int → Option γ) → Option γ
def P_slices_IndexFunc_api_Value_api_Value_L0 (X : Ty_slices_IndexFunc_api_Value_api_Value_L0) (F : Loop3) : Loop3 := fun a s γ K => match a, s with
  | [AVal.dat (Dat.sl v_s), AVal.clo (Fn.func 76) [] [], AVal.dat (Dat.int IntKind.i64 v_)], ([AVal.dat (Dat.int IntKind.i64 v__1), AVal.dat (Dat.int IntKind.i64 v__2)], []) => X v_s v_ v__1 v__2 γ (fun e x0 x1 => K (e, ([AVal.dat (Dat.int IntKind.i64 x0), AVal.dat (Dat.int IntKind.i64 x1)], [])))
  | a, s => F a s γ K
def T_slices_IndexFunc_api_Value_api_Value_L0 (x_row_Check_1 : Ty_row_Check_1) : CallK := (addK noneK 76 (P_row_Check_1 x_row_Check_1 none3))
def L_slices_IndexFunc_api_Value_api_Value_L0 (x_row_Check_1 : Ty_row_Check_1) : LoopK := noneL
def Sp.B_slices_IndexFunc_api_Value_api_Value_L0 (x_slices_IndexFunc_api_Value_api_Value_L0 : Ty_slices_IndexFunc_api_Value_api_Value_L0) (x_row_Check_1 : Ty_row_Check_1) (v_s : List (List Dat)) (v_ v__1 v__2 : Int) (γ : Type) (K : Ex → Int → Int → Option γ) : Option γ := bif decide (v__2 < v_) then elemAt v_s v__2 fun (z6 : List Dat) => bif List.length z6 == 3 then cellAt z6 0 fun (z7 : Dat) => Aev.asInt IntKind.i64 z7 fun (z8 : Int) => cellAt z6 1 fun (z9 : Dat) => Aev.asInt IntKind.i64 z9 fun (z10 : Int) => cellAt z6 2 fun (z11 : Dat) => asStr z11 fun (z12 : ByteArray) => x_row_Check_1 z8 z10 z12 γ fun (z13 : Bool) => bif z13 then K Ex.ret v__2 v__2 else x_slices_IndexFunc_api_Value_api_Value_L0 v_s v_ v__1 (IntKind.wrap IntKind.i64 (v__2 + 1)) γ K else none else K (Ex.exit 0) v__1 v__2
theorem e_slices_IndexFunc_api_Value_api_Value_L0 (p : Par) (x_slices_IndexFunc_api_Value_api_Value_L0 : Ty_slices_IndexFunc_api_Value_api_Value_L0) (x_row_Check_1 v_s v_ v__1 v__2) (γ : Type) (K : Ex × Vars → Option γ) : roundK (cfgY p) (T_slices_IndexFunc_api_Value_api_Value_L0 x_row_Check_1) (L_slices_IndexFunc_api_Value_api_Value_L0 x_row_Check_1) 95 0 [AVal.dat (Dat.sl v_s), AVal.clo (Fn.func 76) [] [], AVal.dat (Dat.int IntKind.i64 v_)] ([AVal.dat (Dat.int IntKind.i64 v__1), AVal.dat (Dat.int IntKind.i64 v__2)], []) γ (contL (fun v => P_slices_IndexFunc_api_Value_api_Value_L0 x_slices_IndexFunc_api_Value_api_Value_L0 noneL3 [AVal.dat (Dat.sl v_s), AVal.clo (Fn.func 76) [] [], AVal.dat (Dat.int IntKind.i64 v_)] v γ K) K) = Sp.B_slices_IndexFunc_api_Value_api_Value_L0 x_slices_IndexFunc_api_Value_api_Value_L0 x_row_Check_1 v_s v_ v__1 v__2 γ (fun e x0 x1 => K (e, ([AVal.dat (Dat.int IntKind.i64 x0), AVal.dat (Dat.int IntKind.i64 x1)], []))) := by kernel_rfl
def Sp.slices_IndexFunc_api_Value_api_Value_L0 : Nat → Ty_slices_IndexFunc_api_Value_api_Value_L0
  | 0 => fun _ _ _ _ _ _ => none
  | n + 1 => Sp.B_slices_IndexFunc_api_Value_api_Value_L0 (Sp.slices_IndexFunc_api_Value_api_Value_L0 n) Sp.row_Check_1
theorem E0_slices_IndexFunc_api_Value_api_Value_L0 (p : Par)   : ∀ n, EntOkL (cfgY p) 95 0 (P_slices_IndexFunc_api_Value_api_Value_L0 (Sp.slices_IndexFunc_api_Value_api_Value_L0  n) noneL3) := entL_rounds (tab_call (tab_nil _) (E_row_Check_1 p (ent_none _ _))) (by kernel_rfl) (fun c v γ K => by unfold P_slices_IndexFunc_api_Value_api_Value_L0; split <;> rfl) fun n c v γ K q h => by
  unfold P_slices_IndexFunc_api_Value_api_Value_L0 at h
  split at h
  · exact (e_slices_IndexFunc_api_Value_api_Value_L0 p _ _ _ _ _ _ _ _).trans h
  · cases h
theorem E_slices_IndexFunc_api_Value_api_Value_L0 (p : Par)   (n : Nat) {F : Loop3} (hF : EntOkL (cfgY p) 95 0 F) : EntOkL (cfgY p) 95 0 (P_slices_IndexFunc_api_Value_api_Value_L0 (Sp.slices_IndexFunc_api_Value_api_Value_L0  n) F) := by
  intro c v γ K q h
  unfold P_slices_IndexFunc_api_Value_api_Value_L0 at h
  split at h
  · exact E0_slices_IndexFunc_api_Value_api_Value_L0 p   n _ _ _ _ _ h
  · exact hF _ _ _ _ _ h
abbrev Ty_slices_IndexFunc_api_Value_api_Value : Type 1 := List (List Dat) → (γ : Type) → (Int → Option γ) → Option γ
def P_slices_IndexFunc_api_Value_api_Value (X : Ty_slices_IndexFunc_api_Value_api_Value) (F : Ent3) : Ent3 := fun a s γ K => match a, s with
  | [AVal.dat (Dat.sl v_s), AVal.clo (Fn.func 76) [] []], [] => X v_s γ (fun r0 => K ([(AVal.dat (Dat.int IntKind.i64 r0), Own.none)], []))
  | a, s => F a s γ K
def T_slices_IndexFunc_api_Value_api_Value (x_slices_IndexFunc_api_Value_api_Value_L0 : Ty_slices_IndexFunc_api_Value_api_Value_L0) : CallK := noneK
def L_slices_IndexFunc_api_Value_api_Value (x_slices_IndexFunc_api_Value_api_Value_L0 : Ty_slices_IndexFunc_api_Value_api_Value_L0) : LoopK := (addL noneL 95 0 (P_slices_IndexFunc_api_Value_api_Value_L0 x_slices_IndexFunc_api_Value_api_Value_L0 noneL3))
def Sp.B_slices_IndexFunc_api_Value_api_Value (x_slices_IndexFunc_api_Value_api_Value_L0 : Ty_slices_IndexFunc_api_Value_api_Value_L0) (v_s : List (List Dat)) (γ : Type) (K : Int → Option γ) : Option γ := x_slices_IndexFunc_api_Value_api_Value_L0 v_s (Int.ofNat (List.length v_s)) 0 0 γ fun (z3 : Ex) (z4 z5 : Int) => bif Ex.isExit z3 0 then K (-1) else bif Ex.isRet z3 then K z4 else none
theorem e_slices_IndexFunc_api_Value_api_Value (p : Par) (x_slices_IndexFunc_api_Value_api_Value_L0 v_s) (γ : Type) (K : List Ent × Sig → Option γ) : evFK (cfgY p) (T_slices_IndexFunc_api_Value_api_Value x_slices_IndexFunc_api_Value_api_Value_L0) (L_slices_IndexFunc_api_Value_api_Value x_slices_IndexFunc_api_Value_api_Value_L0) 95 [AVal.dat (Dat.sl v_s), AVal.clo (Fn.func 76) [] []] [] γ K = Sp.B_slices_IndexFunc_api_Value_api_Value x_slices_IndexFunc_api_Value_api_Value_L0 v_s γ (fun r0 => K ([(AVal.dat (Dat.int IntKind.i64 r0), Own.none)], [])) := by kernel_rfl
def Sp.slices_IndexFunc_api_Value_api_Value : Ty_slices_IndexFunc_api_Value_api_Value := Sp.B_slices_IndexFunc_api_Value_api_Value (Sp.slices_IndexFunc_api_Value_api_Value_L0 fuel)
theorem E_slices_IndexFunc_api_Value_api_Value (p : Par) {F : Ent3} (hF : EntOk (cfgY p) 95 F) : EntOk (cfgY p) 95 (P_slices_IndexFunc_api_Value_api_Value Sp.slices_IndexFunc_api_Value_api_Value F) := by
  intro a s γ K q h
  unfold P_slices_IndexFunc_api_Value_api_Value at h
  split at h
  · exact body_ok (tab_loop (tab_nil _) (E_slices_IndexFunc_api_Value_api_Value_L0 p fuel (entL_none _ _ _))) rfl ((e_slices_IndexFunc_api_Value_api_Value p _ _ _ _).trans h)
  · exact hF _ _ _ _ _ h
abbrev Ty_slices_ContainsFunc_api_Value_api_Value : Type 1 := List (List Dat) → (γ : Type) → (Bool → Option γ) → Option γ
def P_slices_ContainsFunc_api_Value_api_Value (X : Ty_slices_ContainsFunc_api_Value_api_Value) (F : Ent3) : Ent3 := fun a s γ K => match a, s with
  | [AVal.dat (Dat.sl v_s), AVal.clo (Fn.func 76) [] []], [] => X v_s γ (fun r0 => K ([(AVal.dat (Dat.bool r0), Own.none)], []))
  | a, s => F a s γ K
def T_slices_ContainsFunc_api_Value_api_Value (x_slices_IndexFunc_api_Value_api_Value : Ty_slices_IndexFunc_api_Value_api_Value) : CallK := (addK noneK 95 (P_slices_IndexFunc_api_Value_api_Value x_slices_IndexFunc_api_Value_api_Value none3))
def L_slices_ContainsFunc_api_Value_api_Value (x_slices_IndexFunc_api_Value_api_Value : Ty_slices_IndexFunc_api_Value_api_Value) : LoopK := noneL
def Sp.B_slices_ContainsFunc_api_Value_api_Value (x_slices_IndexFunc_api_Value_api_Value : Ty_slices_IndexFunc_api_Value_api_Value) (v_s : List (List Dat)) (γ : Type) (K : Bool → Option γ) : Option γ := x_slices_IndexFunc_api_Value_api_Value v_s γ fun (z3 : Int) => K (decide (0 ≤ z3))
theorem e_slices_ContainsFunc_api_Value_api_Value (p : Par) (x_slices_IndexFunc_api_Value_api_Value v_s) (γ : Type) (K : List Ent × Sig → Option γ) : evFK (cfgY p) (T_slices_ContainsFunc_api_Value_api_Value x_slices_IndexFunc_api_Value_api_Value) (L_slices_ContainsFunc_api_Value_api_Value x_slices_IndexFunc_api_Value_api_Value) 78 [AVal.dat (Dat.sl v_s), AVal.clo (Fn.func 76) [] []] [] γ K = Sp.B_slices_ContainsFunc_api_Value_api_Value x_slices_IndexFunc_api_Value_api_Value v_s γ (fun r0 => K ([(AVal.dat (Dat.bool r0), Own.none)], [])) := by kernel_rfl
def Sp.slices_ContainsFunc_api_Value_api_Value : Ty_slices_ContainsFunc_api_Value_api_Value := Sp.B_slices_ContainsFunc_api_Value_api_Value Sp.slices_IndexFunc_api_Value_api_Value
theorem E_slices_ContainsFunc_api_Value_api_Value (p : Par) {F : Ent3} (hF : EntOk (cfgY p) 78 F) : EntOk (cfgY p) 78 (P_slices_ContainsFunc_api_Value_api_Value Sp.slices_ContainsFunc_api_Value_api_Value F) := by
  intro a s γ K q h
  unfold P_slices_ContainsFunc_api_Value_api_Value at h
  split at h
  · exact body_ok (tab_call (tab_nil _) (E_slices_IndexFunc_api_Value_api_Value p (ent_none _ _))) rfl ((e_slices_ContainsFunc_api_Value_api_Value p _ _ _ _).trans h)
  · exact hF _ _ _ _ _ h
abbrev Ty_row_Check : Type 1 := List (List Dat) → (γ : Type) → (Int → Option γ) → Option γ
def P_row_Check (X : Ty_row_Check) (F : Ent3) : Ent3 := fun a s γ K => match a, s with
  | [AVal.dat (Dat.sl v_r)], [] => X v_r γ (fun r0 => K ([(AVal.dat (Dat.int IntKind.i64 r0), Own.none)], []))
  | a, s => F a s γ K
def T_row_Check (x_slices_ContainsFunc_api_Value_api_Value : Ty_slices_ContainsFunc_api_Value_api_Value) : CallK := (addK noneK 78 (P_slices_ContainsFunc_api_Value_api_Value x_slices_ContainsFunc_api_Value_api_Value none3))
def L_row_Check (x_slices_ContainsFunc_api_Value_api_Value : Ty_slices_ContainsFunc_api_Value_api_Value) : LoopK := noneL
def Sp.B_row_Check (x_slices_ContainsFunc_api_Value_api_Value : Ty_slices_ContainsFunc_api_Value_api_Value) (v_r : List (List Dat)) (γ : Type) (K : Int → Option γ) : Option γ := bif decide (32 < Int.ofNat (List.length v_r)) then K 20 else x_slices_ContainsFunc_api_Value_api_Value v_r γ fun (z3 : Bool) => bif z3 then K 20 else K 0
theorem e_row_Check (p : Par) (x_slices_ContainsFunc_api_Value_api_Value v_r) (γ : Type) (K : List Ent × Sig → Option γ) : evFK (cfgY p) (T_row_Check x_slices_ContainsFunc_api_Value_api_Value) (L_row_Check x_slices_ContainsFunc_api_Value_api_Value) 51 [AVal.dat (Dat.sl v_r)] [] γ K = Sp.B_row_Check x_slices_ContainsFunc_api_Value_api_Value v_r γ (fun r0 => K ([(AVal.dat (Dat.int IntKind.i64 r0), Own.none)], [])) := by kernel_rfl
def Sp.row_Check : Ty_row_Check := Sp.B_row_Check Sp.slices_ContainsFunc_api_Value_api_Value
theorem E_row_Check (p : Par) {F : Ent3} (hF : EntOk (cfgY p) 51 F) : EntOk (cfgY p) 51 (P_row_Check Sp.row_Check F) := by
  intro a s γ K q h
  unfold P_row_Check at h
  split at h
  · exact body_ok (tab_call (tab_nil _) (E_slices_ContainsFunc_api_Value_api_Value p (ent_none _ _))) rfl ((e_row_Check p _ _ _ _).trans h)
  · exact hF _ _ _ _ _ h
abbrev Ty_row_put_L1 : Type 1 := Int → List (List Dat) → Int → (γ : Type) → (Ex → List (List Dat) → Int → Option γ) → Option γ
def P_row_put_L1 (X : Ty_row_put_L1) (F : Loop3) : Loop3 := fun a s γ K => match a, s with
  | [AVal.dat (Dat.int IntKind.u64 v_n)], ([AVal.dat (Dat.sl v_b), AVal.dat (Dat.int IntKind.i64 v_)], []) => X v_n v_b v_ γ (fun e x0 x1 => K (e, ([AVal.dat (Dat.sl x0), AVal.dat (Dat.int IntKind.i64 x1)], [])))
  | a, s => F a s γ K
def T_row_put_L1  : CallK := noneK
def L_row_put_L1  : LoopK := noneL
def Sp.B_row_put_L1 (x_row_put_L1 : Ty_row_put_L1)  (v_n : Int) (v_b : List (List Dat)) (v_ : Int) (γ : Type) (K : Ex → List (List Dat) → Int → Option γ) : Option γ := bif sized v_b 1 then bif decide (v_ < 7) then bif decide (0 ≤ IntKind.wrap IntKind.i64 (8 * IntKind.wrap IntKind.i64 (6 - v_))) then bif sized v_b 1 && true && true && decide ((List.length v_b + 1) * 2 ≤ 70368744177664) && true then x_row_put_L1 v_n (v_b ++ [[Dat.int IntKind.u8 (IntKind.wrap IntKind.u8 (Int.fdiv v_n (2 ^ min (Int.toNat (IntKind.wrap IntKind.i64 (8 * IntKind.wrap IntKind.i64 (6 - v_)))) 64)))]]) (IntKind.wrap IntKind.i64 (v_ + 1)) γ K else none else none else K (Ex.exit 1) v_b v_ else none
theorem e_row_put_L1 (p : Par) (x_row_put_L1 : Ty_row_put_L1) (v_n v_b v_) (γ : Type) (K : Ex × Vars → Option γ) : roundK (cfgY p) (T_row_put_L1 ) (L_row_put_L1 ) 133 1 [AVal.dat (Dat.int IntKind.u64 v_n)] ([AVal.dat (Dat.sl v_b), AVal.dat (Dat.int IntKind.i64 v_)], []) γ (contL (fun v => P_row_put_L1 x_row_put_L1 noneL3 [AVal.dat (Dat.int IntKind.u64 v_n)] v γ K) K) = Sp.B_row_put_L1 x_row_put_L1  v_n v_b v_ γ (fun e x0 x1 => K (e, ([AVal.dat (Dat.sl x0), AVal.dat (Dat.int IntKind.i64 x1)], []))) := by kernel_rfl
def Sp.row_put_L1 : Nat → Ty_row_put_L1
  | 0 => fun _ _ _ _ _ => none
  | n + 1 => Sp.B_row_put_L1 (Sp.row_put_L1 n) 
theorem E0_row_put_L1 (p : Par)   : ∀ n, EntOkL (cfgY p) 133 1 (P_row_put_L1 (Sp.row_put_L1  n) noneL3) := entL_rounds (tab_nil _) (by kernel_rfl) (fun c v γ K => by unfold P_row_put_L1; split <;> rfl) fun n c v γ K q h => by
  unfold P_row_put_L1 at h
  split at h
  · exact (e_row_put_L1 p _  _ _ _ _ _).trans h
  · cases h
theorem E_row_put_L1 (p : Par)   (n : Nat) {F : Loop3} (hF : EntOkL (cfgY p) 133 1 F) : EntOkL (cfgY p) 133 1 (P_row_put_L1 (Sp.row_put_L1  n) F) := by
  intro c v γ K q h
  unfold P_row_put_L1 at h
  split at h
  · exact E0_row_put_L1 p   n _ _ _ _ _ h
  · exact hF _ _ _ _ _ h
abbrev Ty_row_put : Type 1 := List (List Dat) → Int → Int → ByteArray → (γ : Type) → (List (List Dat) → Option γ) → Option γ
def P_row_put (X : Ty_row_put) (F : Ent3) : Ent3 := fun a s γ K => match a, s with
  | [AVal.dat (Dat.sl v_b), AVal.agg [(Dat.int IntKind.i64 v_v0, Own.none), (Dat.int IntKind.i64 v_v1, Own.none), (Dat.str v_v2, Own.none)]], [] => X v_b v_v0 v_v1 v_v2 γ (fun r0 => K ([(AVal.dat (Dat.sl r0), Own.id 0 1)], []))
  | a, s => F a s γ K
def T_row_put (x_row_put_L1 : Ty_row_put_L1) : CallK := noneK
def L_row_put (x_row_put_L1 : Ty_row_put_L1) : LoopK := (addL noneL 133 1 (P_row_put_L1 x_row_put_L1 noneL3))
def Sp.B_row_put (x_row_put_L1 : Ty_row_put_L1) (v_b : List (List Dat)) (v_v0 v_v1 : Int) (v_v2 : ByteArray) (γ : Type) (K : List (List Dat) → Option γ) : Option γ := bif sized v_b 1 && true && true && decide ((List.length v_b + 1) * 2 ≤ 70368744177664) && true then bif decide (v_v0 = 1) then bif sized (v_b ++ [[Dat.int IntKind.u8 (IntKind.wrap IntKind.u8 v_v0)]]) 1 && true && true && decide ((List.length (v_b ++ [[Dat.int IntKind.u8 (IntKind.wrap IntKind.u8 v_v0)]]) + 1) * 2 ≤ 70368744177664) && true then K (v_b ++ [[Dat.int IntKind.u8 (IntKind.wrap IntKind.u8 v_v0)]] ++ [[Dat.int IntKind.u8 (IntKind.wrap IntKind.u8 v_v1)]]) else none else bif decide (v_v0 = 2) then x_row_put_L1 (IntKind.wrap IntKind.u64 (IntKind.wrap IntKind.i64 (v_v1 + 9007199254740992))) (v_b ++ [[Dat.int IntKind.u8 (IntKind.wrap IntKind.u8 v_v0)]]) 0 γ fun (z6 : Ex) (z7 : List (List Dat)) (z8 : Int) => bif sized z7 1 then bif Ex.isExit z6 1 then K z7 else bif Ex.isRet z6 then none else none else none else bif decide (v_v0 = 3) then bif sized (v_b ++ [[Dat.int IntKind.u8 (IntKind.wrap IntKind.u8 v_v0)]]) 1 && true && true && decide ((List.length (v_b ++ [[Dat.int IntKind.u8 (IntKind.wrap IntKind.u8 v_v0)]]) + 1) * 2 ≤ 70368744177664) && true then bif sized (v_b ++ [[Dat.int IntKind.u8 (IntKind.wrap IntKind.u8 v_v0)]] ++ [[Dat.int IntKind.u8 (IntKind.wrap IntKind.u8 (Int.ofNat (ByteArray.size v_v2)))]]) 1 && sized (bytesEs v_v2) 1 && true && decide ((List.length (v_b ++ [[Dat.int IntKind.u8 (IntKind.wrap IntKind.u8 v_v0)]] ++ [[Dat.int IntKind.u8 (IntKind.wrap IntKind.u8 (Int.ofNat (ByteArray.size v_v2)))]]) + List.length (bytesEs v_v2)) * 2 ≤ 70368744177664) && true then K (v_b ++ [[Dat.int IntKind.u8 (IntKind.wrap IntKind.u8 v_v0)]] ++ [[Dat.int IntKind.u8 (IntKind.wrap IntKind.u8 (Int.ofNat (ByteArray.size v_v2)))]] ++ bytesEs v_v2) else none else none else K (v_b ++ [[Dat.int IntKind.u8 (IntKind.wrap IntKind.u8 v_v0)]]) else none
theorem e_row_put (p : Par) (x_row_put_L1 v_b v_v0 v_v1 v_v2) (γ : Type) (K : List Ent × Sig → Option γ) : evFK (cfgY p) (T_row_put x_row_put_L1) (L_row_put x_row_put_L1) 133 [AVal.dat (Dat.sl v_b), AVal.agg [(Dat.int IntKind.i64 v_v0, Own.none), (Dat.int IntKind.i64 v_v1, Own.none), (Dat.str v_v2, Own.none)]] [] γ K = Sp.B_row_put x_row_put_L1 v_b v_v0 v_v1 v_v2 γ (fun r0 => K ([(AVal.dat (Dat.sl r0), Own.id 0 1)], [])) := by kernel_rfl
def Sp.row_put : Ty_row_put := Sp.B_row_put (Sp.row_put_L1 fuel)
theorem E_row_put (p : Par) {F : Ent3} (hF : EntOk (cfgY p) 133 F) : EntOk (cfgY p) 133 (P_row_put Sp.row_put F) := by
  intro a s γ K q h
  unfold P_row_put at h
  split at h
  · exact body_ok (tab_loop (tab_nil _) (E_row_put_L1 p fuel (entL_none _ _ _))) rfl ((e_row_put p _ _ _ _ _ _ _).trans h)
  · exact hF _ _ _ _ _ h
abbrev Ty_row_Put_L0 : Type 1 := List (List Dat) → Int → List (List Dat) → Int → (γ : Type) → (Ex → List (List Dat) → Int → Option γ) → Option γ
def P_row_Put_L0 (X : Ty_row_Put_L0) (F : Loop3) : Loop3 := fun a s γ K => match a, s with
  | [AVal.dat (Dat.sl v_), AVal.dat (Dat.int IntKind.i64 v__1)], ([AVal.dat (Dat.sl v_b), AVal.dat (Dat.int IntKind.i64 v__2)], []) => X v_ v__1 v_b v__2 γ (fun e x0 x1 => K (e, ([AVal.dat (Dat.sl x0), AVal.dat (Dat.int IntKind.i64 x1)], [])))
  | a, s => F a s γ K
def T_row_Put_L0 (x_row_put : Ty_row_put) : CallK := (addK noneK 133 (P_row_put x_row_put none3))
def L_row_Put_L0 (x_row_put : Ty_row_put) : LoopK := noneL
def Sp.B_row_Put_L0 (x_row_Put_L0 : Ty_row_Put_L0) (x_row_put : Ty_row_put) (v_ : List (List Dat)) (v__1 : Int) (v_b : List (List Dat)) (v__2 : Int) (γ : Type) (K : Ex → List (List Dat) → Int → Option γ) : Option γ := bif sized v_b 1 then bif decide (v__2 < v__1) then elemAt v_ v__2 fun (z6 : List Dat) => bif List.length z6 == 3 then cellAt z6 0 fun (z7 : Dat) => Aev.asInt IntKind.i64 z7 fun (z8 : Int) => cellAt z6 1 fun (z9 : Dat) => Aev.asInt IntKind.i64 z9 fun (z10 : Int) => cellAt z6 2 fun (z11 : Dat) => asStr z11 fun (z12 : ByteArray) => x_row_put v_b z8 z10 z12 γ fun (z13 : List (List Dat)) => x_row_Put_L0 v_ v__1 z13 (IntKind.wrap IntKind.i64 (v__2 + 1)) γ K else none else K (Ex.exit 0) v_b v__2 else none
theorem e_row_Put_L0 (p : Par) (x_row_Put_L0 : Ty_row_Put_L0) (x_row_put v_ v__1 v_b v__2) (γ : Type) (K : Ex × Vars → Option γ) : roundK (cfgY p) (T_row_Put_L0 x_row_put) (L_row_Put_L0 x_row_put) 115 0 [AVal.dat (Dat.sl v_), AVal.dat (Dat.int IntKind.i64 v__1)] ([AVal.dat (Dat.sl v_b), AVal.dat (Dat.int IntKind.i64 v__2)], []) γ (contL (fun v => P_row_Put_L0 x_row_Put_L0 noneL3 [AVal.dat (Dat.sl v_), AVal.dat (Dat.int IntKind.i64 v__1)] v γ K) K) = Sp.B_row_Put_L0 x_row_Put_L0 x_row_put v_ v__1 v_b v__2 γ (fun e x0 x1 => K (e, ([AVal.dat (Dat.sl x0), AVal.dat (Dat.int IntKind.i64 x1)], []))) := by kernel_rfl
def Sp.row_Put_L0 : Nat → Ty_row_Put_L0
  | 0 => fun _ _ _ _ _ _ => none
  | n + 1 => Sp.B_row_Put_L0 (Sp.row_Put_L0 n) Sp.row_put
theorem E0_row_Put_L0 (p : Par)   : ∀ n, EntOkL (cfgY p) 115 0 (P_row_Put_L0 (Sp.row_Put_L0  n) noneL3) := entL_rounds (tab_call (tab_nil _) (E_row_put p (ent_none _ _))) (by kernel_rfl) (fun c v γ K => by unfold P_row_Put_L0; split <;> rfl) fun n c v γ K q h => by
  unfold P_row_Put_L0 at h
  split at h
  · exact (e_row_Put_L0 p _ _ _ _ _ _ _ _).trans h
  · cases h
theorem E_row_Put_L0 (p : Par)   (n : Nat) {F : Loop3} (hF : EntOkL (cfgY p) 115 0 F) : EntOkL (cfgY p) 115 0 (P_row_Put_L0 (Sp.row_Put_L0  n) F) := by
  intro c v γ K q h
  unfold P_row_Put_L0 at h
  split at h
  · exact E0_row_Put_L0 p   n _ _ _ _ _ h
  · exact hF _ _ _ _ _ h
abbrev Ty_row_Put : Type 1 := List (List Dat) → (γ : Type) → (List (List Dat) → Int → Option γ) → Option γ
def P_row_Put (X : Ty_row_Put) (F : Ent3) : Ent3 := fun a s γ K => match a, s with
  | [AVal.dat (Dat.sl v_r)], [] => X v_r γ (fun r0 r1 => K ([(AVal.dat (Dat.sl r0), Own.id 0 1), (AVal.dat (Dat.int IntKind.i64 r1), Own.none)], []))
  | a, s => F a s γ K
def T_row_Put (x_row_Check : Ty_row_Check) (x_row_Put_L0 : Ty_row_Put_L0) : CallK := (addK noneK 51 (P_row_Check x_row_Check none3))
def L_row_Put (x_row_Check : Ty_row_Check) (x_row_Put_L0 : Ty_row_Put_L0) : LoopK := (addL noneL 115 0 (P_row_Put_L0 x_row_Put_L0 noneL3))
def Sp.B_row_Put (x_row_Check : Ty_row_Check) (x_row_Put_L0 : Ty_row_Put_L0) (v_r : List (List Dat)) (γ : Type) (K : List (List Dat) → Int → Option γ) : Option γ := x_row_Check v_r γ fun (z3 : Int) => bif !decide (z3 = 0) then K [] z3 else x_row_Put_L0 v_r (Int.ofNat (List.length v_r)) [[Dat.int IntKind.u8 (IntKind.wrap IntKind.u8 (Int.ofNat (List.length v_r)))]] 0 γ fun (z4 : Ex) (z5 : List (List Dat)) (z6 : Int) => bif sized z5 1 then bif Ex.isExit z4 0 then K z5 0 else bif Ex.isRet z4 then none else none else none
theorem e_row_Put (p : Par) (x_row_Check x_row_Put_L0 v_r) (γ : Type) (K : List Ent × Sig → Option γ) : evFK (cfgY p) (T_row_Put x_row_Check x_row_Put_L0) (L_row_Put x_row_Check x_row_Put_L0) 115 [AVal.dat (Dat.sl v_r)] [] γ K = Sp.B_row_Put x_row_Check x_row_Put_L0 v_r γ (fun r0 r1 => K ([(AVal.dat (Dat.sl r0), Own.id 0 1), (AVal.dat (Dat.int IntKind.i64 r1), Own.none)], [])) := by kernel_rfl
def Sp.row_Put : Ty_row_Put := Sp.B_row_Put Sp.row_Check (Sp.row_Put_L0 fuel)
theorem E_row_Put (p : Par) {F : Ent3} (hF : EntOk (cfgY p) 115 F) : EntOk (cfgY p) 115 (P_row_Put Sp.row_Put F) := by
  intro a s γ K q h
  unfold P_row_Put at h
  split at h
  · exact body_ok (tab_loop (tab_call (tab_nil _) (E_row_Check p (ent_none _ _))) (E_row_Put_L0 p fuel (entL_none _ _ _))) rfl ((e_row_Put p _ _ _ _ _).trans h)
  · exact hF _ _ _ _ _ h
abbrev Ty_page_fits : Type 1 := List (List Dat) → (γ : Type) → (List (List Dat) → Int → Option γ) → Option γ
def P_page_fits (X : Ty_page_fits) (F : Ent3) : Ent3 := fun a s γ K => match a, s with
  | [AVal.dat (Dat.sl v_r)], [] => X v_r γ (fun r0 r1 => K ([(AVal.dat (Dat.sl r0), Own.none), (AVal.dat (Dat.int IntKind.i64 r1), Own.none)], []))
  | a, s => F a s γ K
def T_page_fits (x_row_Put : Ty_row_Put) : CallK := (addK noneK 115 (P_row_Put x_row_Put none3))
def L_page_fits (x_row_Put : Ty_row_Put) : LoopK := noneL
def Sp.B_page_fits (x_row_Put : Ty_row_Put) (v_r : List (List Dat)) (γ : Type) (K : List (List Dat) → Int → Option γ) : Option γ := x_row_Put v_r γ fun (z3 : List (List Dat)) (z4 : Int) => bif !decide (z4 = 0) then K [] z4 else bif decide (253 < Int.ofNat (List.length z3)) then K [] 3 else K z3 0
theorem e_page_fits (p : Par) (x_row_Put v_r) (γ : Type) (K : List Ent × Sig → Option γ) : evFK (cfgY p) (T_page_fits x_row_Put) (L_page_fits x_row_Put) 101 [AVal.dat (Dat.sl v_r)] [] γ K = Sp.B_page_fits x_row_Put v_r γ (fun r0 r1 => K ([(AVal.dat (Dat.sl r0), Own.none), (AVal.dat (Dat.int IntKind.i64 r1), Own.none)], [])) := by kernel_rfl
def Sp.page_fits : Ty_page_fits := Sp.B_page_fits Sp.row_Put
theorem E_page_fits (p : Par) {F : Ent3} (hF : EntOk (cfgY p) 101 F) : EntOk (cfgY p) 101 (P_page_fits Sp.page_fits F) := by
  intro a s γ K q h
  unfold P_page_fits at h
  split at h
  · exact body_ok (tab_call (tab_nil _) (E_row_Put p (ent_none _ _))) rfl ((e_page_fits p _ _ _ _).trans h)
  · exact hF _ _ _ _ _ h
end
end Go.Proofs.YtimdilbcijgadaaGreatDoor.Y

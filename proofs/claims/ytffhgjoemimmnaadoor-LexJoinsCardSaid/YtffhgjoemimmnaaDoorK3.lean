/- What the functions of this program compute, printed by a program. -/
import Derived.Test.YtffhgjoemimmnaaDoorK2
import Derived.KernelRfl
set_option linter.unusedVariables false
namespace Go.Proofs.YtffhgjoemimmnaaDoor
open Go Go.Aev Go.RowKit
noncomputable section
abbrev Ty_lex_scanner_left : Type 1 := ByteArray → Int → (γ : Type) → (Bool → ByteArray → Int → Option γ) → Option γ
def P_lex_scanner_left (X : Ty_lex_scanner_left) (F : Ent3) : Ent3 := fun a s γ K => match a, s with
  | [AVal.ref 0 0], [Box.cells [AVal.dat (Dat.str b0), AVal.dat (Dat.int IntKind.i64 b1)]] => X b0 b1 γ (fun r0 r1 r2 => K ([(AVal.dat (Dat.bool r0), Own.none)], [Box.cells [AVal.dat (Dat.str r1), AVal.dat (Dat.int IntKind.i64 r2)]]))
  | a, s => F a s γ K
def T_lex_scanner_left  : CallK := noneK
def L_lex_scanner_left  : LoopK := noneL
def Sp.B_lex_scanner_left  (b0 : ByteArray) (b1 : Int) (γ : Type) (K : Bool → ByteArray → Int → Option γ) : Option γ := K (decide (b1 < Int.ofNat (ByteArray.size b0))) b0 b1
theorem e_lex_scanner_left (p : Par)  (b0 : ByteArray) (b1 : Int) (γ : Type) (K : List Ent × Sig → Option γ) : evFK (cfg p) (T_lex_scanner_left ) (L_lex_scanner_left ) 14 [AVal.ref 0 0] [Box.cells [AVal.dat (Dat.str b0), AVal.dat (Dat.int IntKind.i64 b1)]] γ K = Sp.B_lex_scanner_left  b0 b1 γ (fun r0 r1 r2 => K ([(AVal.dat (Dat.bool r0), Own.none)], [Box.cells [AVal.dat (Dat.str r1), AVal.dat (Dat.int IntKind.i64 r2)]])) := by kernel_rfl
def Sp.lex_scanner_left : Ty_lex_scanner_left := Sp.B_lex_scanner_left 
theorem E_lex_scanner_left (p : Par) {F : Ent3} (hF : EntOk (cfg p) 14 F) : EntOk (cfg p) 14 (P_lex_scanner_left Sp.lex_scanner_left F) := by
  intro a s γ K q h
  unfold P_lex_scanner_left at h
  split at h
  · exact body_ok (tab_nil _) rfl ((e_lex_scanner_left p  _ _ _ _).trans h)
  · exact hF _ _ _ _ _ h
abbrev Ty_lex_scanner_skip_L0 : Type 1 := ByteArray → Int → (γ : Type) → (Ex → ByteArray → Int → Option γ) → Option γ
def P_lex_scanner_skip_L0 (X : Ty_lex_scanner_skip_L0) (F : Loop3) : Loop3 := fun a s γ K => match a, s with
  | [AVal.ref 0 0], ([], [Box.cells [AVal.dat (Dat.str b0), AVal.dat (Dat.int IntKind.i64 b1)]]) => X b0 b1 γ (fun e x0 x1 => K (e, ([], [Box.cells [AVal.dat (Dat.str x0), AVal.dat (Dat.int IntKind.i64 x1)]])))
  | a, s => F a s γ K
def T_lex_scanner_skip_L0 (x_lex_scanner_left : Ty_lex_scanner_left) (x_strings_HasPrefix : Ty_strings_HasPrefix) (x_strings_IndexByte : Ty_strings_IndexByte) : CallK := (addK (addK (addK noneK 14 (P_lex_scanner_left x_lex_scanner_left none3)) 22 (P_strings_HasPrefix x_strings_HasPrefix none3)) 23 (P_strings_IndexByte x_strings_IndexByte none3))
def L_lex_scanner_skip_L0 (x_lex_scanner_left : Ty_lex_scanner_left) (x_strings_HasPrefix : Ty_strings_HasPrefix) (x_strings_IndexByte : Ty_strings_IndexByte) : LoopK := noneL
def Sp.B_lex_scanner_skip_L0 (x_lex_scanner_skip_L0 : Ty_lex_scanner_skip_L0) (x_lex_scanner_left : Ty_lex_scanner_left) (x_strings_HasPrefix : Ty_strings_HasPrefix) (x_strings_IndexByte : Ty_strings_IndexByte) (b0 : ByteArray) (b1 : Int) (γ : Type) (K : Ex → ByteArray → Int → Option γ) : Option γ := x_lex_scanner_left b0 b1 γ fun (z4 : Bool) (z5 : ByteArray) (z6 : Int) => bif z4 then bif decide (0 ≤ z6) && decide (z6 ≤ Int.ofNat (ByteArray.size z5)) && decide (Int.ofNat (ByteArray.size z5) ≤ Int.ofNat (ByteArray.size z5)) && true then x_strings_HasPrefix (ByteArray.extract z5 (Int.toNat z6) (Int.toNat (Int.ofNat (ByteArray.size z5)))) (bs [45, 45]) γ fun (z7 : Bool) => bif z7 then x_strings_IndexByte (ByteArray.extract z5 (Int.toNat z6) (Int.toNat (Int.ofNat (ByteArray.size z5)))) 10 γ fun (z8 : Int) => bif decide (z8 < 0) then x_lex_scanner_skip_L0 z5 (IntKind.wrap IntKind.i64 (z6 + Int.ofNat (ByteArray.size (ByteArray.extract z5 (Int.toNat z6) (Int.toNat (Int.ofNat (ByteArray.size z5))))))) γ K else x_lex_scanner_skip_L0 z5 (IntKind.wrap IntKind.i64 (z6 + z8)) γ K else byteAt (ByteArray.extract z5 (Int.toNat z6) (Int.toNat (Int.ofNat (ByteArray.size z5)))) 0 fun (z9 : UInt8) => x_strings_IndexByte (bs [32, 9, 10, 13]) (Int.ofNat (BitVec.toFin (UInt8.toBitVec z9)).1) γ fun (z10 : Int) => bif decide (0 ≤ z10) then x_lex_scanner_skip_L0 z5 (IntKind.wrap IntKind.i64 (z6 + 1)) γ K else K (Ex.exit 0) z5 z6 else none else K (Ex.exit 0) z5 z6
theorem e_lex_scanner_skip_L0 (p : Par) (x_lex_scanner_skip_L0 : Ty_lex_scanner_skip_L0) (x_lex_scanner_left : Ty_lex_scanner_left) (x_strings_HasPrefix : Ty_strings_HasPrefix) (x_strings_IndexByte : Ty_strings_IndexByte) (b0 : ByteArray) (b1 : Int) (γ : Type) (K : Ex × Vars → Option γ) : roundK (cfg p) (T_lex_scanner_skip_L0 x_lex_scanner_left x_strings_HasPrefix x_strings_IndexByte) (L_lex_scanner_skip_L0 x_lex_scanner_left x_strings_HasPrefix x_strings_IndexByte) 13 0 [AVal.ref 0 0] ([], [Box.cells [AVal.dat (Dat.str b0), AVal.dat (Dat.int IntKind.i64 b1)]]) γ (contL (fun v => P_lex_scanner_skip_L0 x_lex_scanner_skip_L0 noneL3 [AVal.ref 0 0] v γ K) K) = Sp.B_lex_scanner_skip_L0 x_lex_scanner_skip_L0 x_lex_scanner_left x_strings_HasPrefix x_strings_IndexByte b0 b1 γ (fun e x0 x1 => K (e, ([], [Box.cells [AVal.dat (Dat.str x0), AVal.dat (Dat.int IntKind.i64 x1)]]))) := by kernel_rfl
def Sp.lex_scanner_skip_L0 : Nat → Ty_lex_scanner_skip_L0
  | 0 => fun _ _ _ _ => none
  | n + 1 => Sp.B_lex_scanner_skip_L0 (Sp.lex_scanner_skip_L0 n) Sp.lex_scanner_left Sp.strings_HasPrefix Sp.strings_IndexByte
theorem E0_lex_scanner_skip_L0 (p : Par)   : ∀ n, EntOkL (cfg p) 13 0 (P_lex_scanner_skip_L0 (Sp.lex_scanner_skip_L0  n) noneL3) := entL_rounds (tab_call (tab_call (tab_call (tab_nil _) (E_lex_scanner_left p (ent_none _ _))) (E_strings_HasPrefix p (ent_none _ _))) (E_strings_IndexByte p (ent_none _ _))) (by kernel_rfl) (fun c v γ K => by unfold P_lex_scanner_skip_L0; split <;> rfl) fun n c v γ K q h => by
  unfold P_lex_scanner_skip_L0 at h
  split at h
  · exact (e_lex_scanner_skip_L0 p _ _ _ _ _ _ _ _).trans h
  · cases h
theorem E_lex_scanner_skip_L0 (p : Par)   (n : Nat) {F : Loop3} (hF : EntOkL (cfg p) 13 0 F) : EntOkL (cfg p) 13 0 (P_lex_scanner_skip_L0 (Sp.lex_scanner_skip_L0  n) F) := by
  intro c v γ K q h
  unfold P_lex_scanner_skip_L0 at h
  split at h
  · exact E0_lex_scanner_skip_L0 p   n _ _ _ _ _ h
  · exact hF _ _ _ _ _ h
abbrev Ty_lex_scanner_skip : Type 1 := ByteArray → Int → (γ : Type) → (ByteArray → Int → Option γ) → Option γ
def P_lex_scanner_skip (X : Ty_lex_scanner_skip) (F : Ent3) : Ent3 := fun a s γ K => match a, s with
  | [AVal.ref 0 0], [Box.cells [AVal.dat (Dat.str b0), AVal.dat (Dat.int IntKind.i64 b1)]] => X b0 b1 γ (fun r0 r1 => K ([], [Box.cells [AVal.dat (Dat.str r0), AVal.dat (Dat.int IntKind.i64 r1)]]))
  | a, s => F a s γ K
def T_lex_scanner_skip (x_lex_scanner_skip_L0 : Ty_lex_scanner_skip_L0) : CallK := noneK
def L_lex_scanner_skip (x_lex_scanner_skip_L0 : Ty_lex_scanner_skip_L0) : LoopK := (addL noneL 13 0 (P_lex_scanner_skip_L0 x_lex_scanner_skip_L0 noneL3))
def Sp.B_lex_scanner_skip (x_lex_scanner_skip_L0 : Ty_lex_scanner_skip_L0) (b0 : ByteArray) (b1 : Int) (γ : Type) (K : ByteArray → Int → Option γ) : Option γ := x_lex_scanner_skip_L0 b0 b1 γ fun (z4 : Ex) (z5 : ByteArray) (z6 : Int) => bif Ex.isExit z4 0 then K z5 z6 else bif Ex.isRet z4 then K z5 z6 else none
theorem e_lex_scanner_skip (p : Par) (x_lex_scanner_skip_L0 : Ty_lex_scanner_skip_L0) (b0 : ByteArray) (b1 : Int) (γ : Type) (K : List Ent × Sig → Option γ) : evFK (cfg p) (T_lex_scanner_skip x_lex_scanner_skip_L0) (L_lex_scanner_skip x_lex_scanner_skip_L0) 13 [AVal.ref 0 0] [Box.cells [AVal.dat (Dat.str b0), AVal.dat (Dat.int IntKind.i64 b1)]] γ K = Sp.B_lex_scanner_skip x_lex_scanner_skip_L0 b0 b1 γ (fun r0 r1 => K ([], [Box.cells [AVal.dat (Dat.str r0), AVal.dat (Dat.int IntKind.i64 r1)]])) := by kernel_rfl
def Sp.lex_scanner_skip : Ty_lex_scanner_skip := Sp.B_lex_scanner_skip (Sp.lex_scanner_skip_L0 fuel)
theorem E_lex_scanner_skip (p : Par) {F : Ent3} (hF : EntOk (cfg p) 13 F) : EntOk (cfg p) 13 (P_lex_scanner_skip Sp.lex_scanner_skip F) := by
  intro a s γ K q h
  unfold P_lex_scanner_skip at h
  split at h
  · exact body_ok (tab_loop (tab_nil _) (E_lex_scanner_skip_L0 p fuel (entL_none _ _ _))) rfl ((e_lex_scanner_skip p _ _ _ _ _).trans h)
  · exact hF _ _ _ _ _ h
abbrev Ty_lex_scanner_left'1 : Type 1 := ByteArray → Int → ByteArray → (γ : Type) → (Bool → ByteArray → Int → ByteArray → Option γ) → Option γ
def P_lex_scanner_left'1 (X : Ty_lex_scanner_left'1) (F : Ent3) : Ent3 := fun a s γ K => match a, s with
  | [AVal.ref 0 0], [Box.cells [AVal.dat (Dat.str b0), AVal.dat (Dat.int IntKind.i64 b1)], Box.bld b2] => X b0 b1 b2 γ (fun r0 r1 r2 r3 => K ([(AVal.dat (Dat.bool r0), Own.none)], [Box.cells [AVal.dat (Dat.str r1), AVal.dat (Dat.int IntKind.i64 r2)], Box.bld r3]))
  | a, s => F a s γ K
def T_lex_scanner_left'1  : CallK := noneK
def L_lex_scanner_left'1  : LoopK := noneL
def Sp.B_lex_scanner_left'1  (b0 : ByteArray) (b1 : Int) (b2 : ByteArray) (γ : Type) (K : Bool → ByteArray → Int → ByteArray → Option γ) : Option γ := K (decide (b1 < Int.ofNat (ByteArray.size b0))) b0 b1 b2
theorem e_lex_scanner_left'1 (p : Par)  (b0 : ByteArray) (b1 : Int) (b2 : ByteArray) (γ : Type) (K : List Ent × Sig → Option γ) : evFK (cfg p) (T_lex_scanner_left'1 ) (L_lex_scanner_left'1 ) 14 [AVal.ref 0 0] [Box.cells [AVal.dat (Dat.str b0), AVal.dat (Dat.int IntKind.i64 b1)], Box.bld b2] γ K = Sp.B_lex_scanner_left'1  b0 b1 b2 γ (fun r0 r1 r2 r3 => K ([(AVal.dat (Dat.bool r0), Own.none)], [Box.cells [AVal.dat (Dat.str r1), AVal.dat (Dat.int IntKind.i64 r2)], Box.bld r3])) := by kernel_rfl
def Sp.lex_scanner_left'1 : Ty_lex_scanner_left'1 := Sp.B_lex_scanner_left'1 
theorem E_lex_scanner_left'1 (p : Par) {F : Ent3} (hF : EntOk (cfg p) 14 F) : EntOk (cfg p) 14 (P_lex_scanner_left'1 Sp.lex_scanner_left'1 F) := by
  intro a s γ K q h
  unfold P_lex_scanner_left'1 at h
  split at h
  · exact body_ok (tab_nil _) rfl ((e_lex_scanner_left'1 p  _ _ _ _ _).trans h)
  · exact hF _ _ _ _ _ h
abbrev Ty_strings_Builder_String : Type 1 := ByteArray → Int → ByteArray → (γ : Type) → (ByteArray → ByteArray → Int → ByteArray → Option γ) → Option γ
def P_strings_Builder_String (X : Ty_strings_Builder_String) (F : Ent3) : Ent3 := fun a s γ K => match a, s with
  | [AVal.ref 1 0], [Box.cells [AVal.dat (Dat.str b0), AVal.dat (Dat.int IntKind.i64 b1)], Box.bld b2] => X b0 b1 b2 γ (fun x0 x1 x2 x3 => K ([(AVal.dat (Dat.str x0), Own.none)], [Box.cells [AVal.dat (Dat.str x1), AVal.dat (Dat.int IntKind.i64 x2)], Box.bld x3]))
  | a, s => F a s γ K
def Sp.strings_Builder_String : Ty_strings_Builder_String := fun b0 b1 b2 γ K => K b2 b0 b1 b2
theorem e_strings_Builder_String (b0 : ByteArray) (b1 : Int) (b2 : ByteArray) (γ : Type) (K : List Ent × Sig → Option γ) : Go.Aev.bldStringS [AVal.ref 1 0] [Box.cells [AVal.dat (Dat.str b0), AVal.dat (Dat.int IntKind.i64 b1)], Box.bld b2] γ K = Sp.strings_Builder_String b0 b1 b2 γ (fun x0 x1 x2 x3 => K ([(AVal.dat (Dat.str x0), Own.none)], [Box.cells [AVal.dat (Dat.str x1), AVal.dat (Dat.int IntKind.i64 x2)], Box.bld x3])) := by kernel_rfl
theorem E_strings_Builder_String (p : Par) {F : Ent3} (hF : EntOk (cfg p) 32 F) : EntOk (cfg p) 32 (P_strings_Builder_String Sp.strings_Builder_String F) := by
  intro a s γ K q h
  unfold P_strings_Builder_String at h
  split at h
  · exact ent_primS (S := Go.Aev.bldStringS) rfl Go.Aev.bldStringS_cps _ _ _ _ _ ((e_strings_Builder_String _ _ _ _ _).trans h)
  · exact hF _ _ _ _ _ h
abbrev Ty_strings_Builder_Len : Type 1 := ByteArray → Int → ByteArray → (γ : Type) → (Int → ByteArray → Int → ByteArray → Option γ) → Option γ
def P_strings_Builder_Len (X : Ty_strings_Builder_Len) (F : Ent3) : Ent3 := fun a s γ K => match a, s with
  | [AVal.ref 1 0], [Box.cells [AVal.dat (Dat.str b0), AVal.dat (Dat.int IntKind.i64 b1)], Box.bld b2] => X b0 b1 b2 γ (fun x0 x1 x2 x3 => K ([(AVal.dat (Dat.int IntKind.i64 x0), Own.none)], [Box.cells [AVal.dat (Dat.str x1), AVal.dat (Dat.int IntKind.i64 x2)], Box.bld x3]))
  | a, s => F a s γ K
def Sp.strings_Builder_Len : Ty_strings_Builder_Len := fun b0 b1 b2 γ K => K (Int.ofNat (ByteArray.size b2)) b0 b1 b2
theorem e_strings_Builder_Len (b0 : ByteArray) (b1 : Int) (b2 : ByteArray) (γ : Type) (K : List Ent × Sig → Option γ) : Go.Aev.bldLenS [AVal.ref 1 0] [Box.cells [AVal.dat (Dat.str b0), AVal.dat (Dat.int IntKind.i64 b1)], Box.bld b2] γ K = Sp.strings_Builder_Len b0 b1 b2 γ (fun x0 x1 x2 x3 => K ([(AVal.dat (Dat.int IntKind.i64 x0), Own.none)], [Box.cells [AVal.dat (Dat.str x1), AVal.dat (Dat.int IntKind.i64 x2)], Box.bld x3])) := by kernel_rfl
theorem E_strings_Builder_Len (p : Par) {F : Ent3} (hF : EntOk (cfg p) 37 F) : EntOk (cfg p) 37 (P_strings_Builder_Len Sp.strings_Builder_Len F) := by
  intro a s γ K q h
  unfold P_strings_Builder_Len at h
  split at h
  · exact ent_primS (S := Go.Aev.bldLenS) rfl Go.Aev.bldLenS_cps _ _ _ _ _ ((e_strings_Builder_Len _ _ _ _ _).trans h)
  · exact hF _ _ _ _ _ h
abbrev Ty_strings_Builder_WriteByte : Type 1 := Int → ByteArray → Int → ByteArray → (γ : Type) → (ByteArray → Int → ByteArray → Option γ) → Option γ
def P_strings_Builder_WriteByte (X : Ty_strings_Builder_WriteByte) (F : Ent3) : Ent3 := fun a s γ K => match a, s with
  | [AVal.ref 1 0, AVal.dat (Dat.int IntKind.u8 v_c)], [Box.cells [AVal.dat (Dat.str b0), AVal.dat (Dat.int IntKind.i64 b1)], Box.bld b2] => X v_c b0 b1 b2 γ (fun x0 x1 x2 => K ([(AVal.dat Dat.nilI, Own.none)], [Box.cells [AVal.dat (Dat.str x0), AVal.dat (Dat.int IntKind.i64 x1)], Box.bld x2]))
  | a, s => F a s γ K
def Sp.strings_Builder_WriteByte : Ty_strings_Builder_WriteByte := fun v_c b0 b1 b2 γ K => bif decide (0 ≤ v_c) && decide (v_c < 256) && decide (ByteArray.size b2 + 1 ≤ 140737488355328) then K b0 b1 (Sp.bpush b2 v_c) else none
theorem e_strings_Builder_WriteByte (v_c : Int) (b0 : ByteArray) (b1 : Int) (b2 : ByteArray) (γ : Type) (K : List Ent × Sig → Option γ) : Go.Aev.bldWriteByteS [AVal.ref 1 0, AVal.dat (Dat.int IntKind.u8 v_c)] [Box.cells [AVal.dat (Dat.str b0), AVal.dat (Dat.int IntKind.i64 b1)], Box.bld b2] γ K = Sp.strings_Builder_WriteByte v_c b0 b1 b2 γ (fun x0 x1 x2 => K ([(AVal.dat Dat.nilI, Own.none)], [Box.cells [AVal.dat (Dat.str x0), AVal.dat (Dat.int IntKind.i64 x1)], Box.bld x2])) := by kernel_rfl
theorem E_strings_Builder_WriteByte (p : Par) {F : Ent3} (hF : EntOk (cfg p) 38 F) : EntOk (cfg p) 38 (P_strings_Builder_WriteByte Sp.strings_Builder_WriteByte F) := by
  intro a s γ K q h
  unfold P_strings_Builder_WriteByte at h
  split at h
  · exact ent_primS (S := Go.Aev.bldWriteByteS) rfl Go.Aev.bldWriteByteS_cps _ _ _ _ _ ((e_strings_Builder_WriteByte _ _ _ _ _ _).trans h)
  · exact hF _ _ _ _ _ h
abbrev Ty_lex_scanner_text_L0 : Type 1 := Bool → Int → ByteArray → Int → Int → Int → ByteArray → Int → Int → ByteArray → Int → ByteArray → (γ : Type) → (Ex → Bool → Int → ByteArray → Int → Int → Int → ByteArray → Int → Int → ByteArray → Int → ByteArray → Option γ) → Option γ
def P_lex_scanner_text_L0 (X : Ty_lex_scanner_text_L0) (F : Loop3) : Loop3 := fun a s γ K => match a, s with
  | [AVal.ref 0 0, AVal.loc 2 0, AVal.loc 4 0, AVal.ref 1 0], ([AVal.dat (Dat.bool v_), AVal.agg [(Dat.int IntKind.i64 v_box0, Own.none), (Dat.str v_box1, Own.none), (Dat.int IntKind.i64 v_box2, Own.none), (Dat.int IntKind.i64 v_box3, Own.none)], AVal.agg [(Dat.int IntKind.i64 v_box0_1, Own.none), (Dat.str v_box1_1, Own.none), (Dat.int IntKind.i64 v_box2_1, Own.none), (Dat.int IntKind.i64 v_box3_1, Own.none)]], [Box.cells [AVal.dat (Dat.str b0), AVal.dat (Dat.int IntKind.i64 b1)], Box.bld b2]) => X v_ v_box0 v_box1 v_box2 v_box3 v_box0_1 v_box1_1 v_box2_1 v_box3_1 b0 b1 b2 γ (fun e x0 x1 x2 x3 x4 x5 x6 x7 x8 x9 x10 x11 => K (e, ([AVal.dat (Dat.bool x0), AVal.agg [(Dat.int IntKind.i64 x1, Own.none), (Dat.str x2, Own.none), (Dat.int IntKind.i64 x3, Own.none), (Dat.int IntKind.i64 x4, Own.none)], AVal.agg [(Dat.int IntKind.i64 x5, Own.none), (Dat.str x6, Own.none), (Dat.int IntKind.i64 x7, Own.none), (Dat.int IntKind.i64 x8, Own.none)]], [Box.cells [AVal.dat (Dat.str x9), AVal.dat (Dat.int IntKind.i64 x10)], Box.bld x11])))
  | a, s => F a s γ K
def T_lex_scanner_text_L0 (x_lex_scanner_left'1 : Ty_lex_scanner_left'1) (x_strings_Builder_String : Ty_strings_Builder_String) (x_strings_Builder_Len : Ty_strings_Builder_Len) (x_strings_Builder_WriteByte : Ty_strings_Builder_WriteByte) : CallK := (addK (addK (addK (addK noneK 14 (P_lex_scanner_left'1 x_lex_scanner_left'1 none3)) 32 (P_strings_Builder_String x_strings_Builder_String none3)) 37 (P_strings_Builder_Len x_strings_Builder_Len none3)) 38 (P_strings_Builder_WriteByte x_strings_Builder_WriteByte none3))
def L_lex_scanner_text_L0 (x_lex_scanner_left'1 : Ty_lex_scanner_left'1) (x_strings_Builder_String : Ty_strings_Builder_String) (x_strings_Builder_Len : Ty_strings_Builder_Len) (x_strings_Builder_WriteByte : Ty_strings_Builder_WriteByte) : LoopK := noneL
def Sp.B_lex_scanner_text_L0 (x_lex_scanner_text_L0 : Ty_lex_scanner_text_L0) (x_lex_scanner_left'1 : Ty_lex_scanner_left'1) (x_strings_Builder_String : Ty_strings_Builder_String) (x_strings_Builder_Len : Ty_strings_Builder_Len) (x_strings_Builder_WriteByte : Ty_strings_Builder_WriteByte) (v_ : Bool) (v_box0 : Int) (v_box1 : ByteArray) (v_box2 : Int) (v_box3 : Int) (v_box0_1 : Int) (v_box1_1 : ByteArray) (v_box2_1 : Int) (v_box3_1 : Int) (b0 : ByteArray) (b1 : Int) (b2 : ByteArray) (γ : Type) (K : Ex → Bool → Int → ByteArray → Int → Int → Int → ByteArray → Int → Int → ByteArray → Int → ByteArray → Option γ) : Option γ := x_lex_scanner_left'1 b0 b1 b2 γ fun (z14 : Bool) (z15 : ByteArray) (z16 : Int) (z17 : ByteArray) => bif z14 then byteAt z15 z16 fun (z18 : UInt8) => bif decide (Int.ofNat (BitVec.toFin (UInt8.toBitVec z18)).1 = 39) then x_lex_scanner_left'1 z15 (IntKind.wrap IntKind.i64 (z16 + 1)) z17 γ fun (z19 : Bool) (z20 : ByteArray) (z21 : Int) (z22 : ByteArray) => bif !z19 then x_strings_Builder_String z20 z21 z22 γ fun (z23 z24 : ByteArray) (z25 : Int) (z26 : ByteArray) => x_strings_Builder_Len z24 z25 z26 γ fun (z27 : Int) (z28 : ByteArray) (z29 : Int) (z30 : ByteArray) => K Ex.ret (decide (z27 ≤ 64)) v_box0_1 z23 v_box2_1 v_box3_1 v_box0_1 z23 v_box2_1 v_box3_1 z28 z29 z30 else byteAt z20 z21 fun (z31 : UInt8) => bif !decide (Int.ofNat (BitVec.toFin (UInt8.toBitVec z31)).1 = 39) then x_strings_Builder_String z20 z21 z22 γ fun (z32 z33 : ByteArray) (z34 : Int) (z35 : ByteArray) => x_strings_Builder_Len z33 z34 z35 γ fun (z36 : Int) (z37 : ByteArray) (z38 : Int) (z39 : ByteArray) => K Ex.ret (decide (z36 ≤ 64)) v_box0_1 z32 v_box2_1 v_box3_1 v_box0_1 z32 v_box2_1 v_box3_1 z37 z38 z39 else x_strings_Builder_WriteByte (Int.ofNat (BitVec.toFin (UInt8.toBitVec z18)).1) z20 z21 z22 γ fun (z40 : ByteArray) (z41 : Int) (z42 : ByteArray) => x_lex_scanner_text_L0 v_ v_box0 v_box1 v_box2 v_box3 v_box0_1 v_box1_1 v_box2_1 v_box3_1 z40 (IntKind.wrap IntKind.i64 (z41 + 1)) z42 γ K else x_strings_Builder_WriteByte (Int.ofNat (BitVec.toFin (UInt8.toBitVec z18)).1) z15 z16 z17 γ fun (z43 : ByteArray) (z44 : Int) (z45 : ByteArray) => x_lex_scanner_text_L0 v_ v_box0 v_box1 v_box2 v_box3 v_box0_1 v_box1_1 v_box2_1 v_box3_1 z43 (IntKind.wrap IntKind.i64 (z44 + 1)) z45 γ K else K (Ex.exit 0) v_ v_box0 v_box1 v_box2 v_box3 v_box0_1 v_box1_1 v_box2_1 v_box3_1 z15 z16 z17
theorem e_lex_scanner_text_L0 (p : Par) (x_lex_scanner_text_L0 : Ty_lex_scanner_text_L0) (x_lex_scanner_left'1 : Ty_lex_scanner_left'1) (x_strings_Builder_String : Ty_strings_Builder_String) (x_strings_Builder_Len : Ty_strings_Builder_Len) (x_strings_Builder_WriteByte : Ty_strings_Builder_WriteByte) (v_ : Bool) (v_box0 : Int) (v_box1 : ByteArray) (v_box2 : Int) (v_box3 : Int) (v_box0_1 : Int) (v_box1_1 : ByteArray) (v_box2_1 : Int) (v_box3_1 : Int) (b0 : ByteArray) (b1 : Int) (b2 : ByteArray) (γ : Type) (K : Ex × Vars → Option γ) : roundK (cfg p) (T_lex_scanner_text_L0 x_lex_scanner_left'1 x_strings_Builder_String x_strings_Builder_Len x_strings_Builder_WriteByte) (L_lex_scanner_text_L0 x_lex_scanner_left'1 x_strings_Builder_String x_strings_Builder_Len x_strings_Builder_WriteByte) 24 0 [AVal.ref 0 0, AVal.loc 2 0, AVal.loc 4 0, AVal.ref 1 0] ([AVal.dat (Dat.bool v_), AVal.agg [(Dat.int IntKind.i64 v_box0, Own.none), (Dat.str v_box1, Own.none), (Dat.int IntKind.i64 v_box2, Own.none), (Dat.int IntKind.i64 v_box3, Own.none)], AVal.agg [(Dat.int IntKind.i64 v_box0_1, Own.none), (Dat.str v_box1_1, Own.none), (Dat.int IntKind.i64 v_box2_1, Own.none), (Dat.int IntKind.i64 v_box3_1, Own.none)]], [Box.cells [AVal.dat (Dat.str b0), AVal.dat (Dat.int IntKind.i64 b1)], Box.bld b2]) γ (contL (fun v => P_lex_scanner_text_L0 x_lex_scanner_text_L0 noneL3 [AVal.ref 0 0, AVal.loc 2 0, AVal.loc 4 0, AVal.ref 1 0] v γ K) K) = Sp.B_lex_scanner_text_L0 x_lex_scanner_text_L0 x_lex_scanner_left'1 x_strings_Builder_String x_strings_Builder_Len x_strings_Builder_WriteByte v_ v_box0 v_box1 v_box2 v_box3 v_box0_1 v_box1_1 v_box2_1 v_box3_1 b0 b1 b2 γ (fun e x0 x1 x2 x3 x4 x5 x6 x7 x8 x9 x10 x11 => K (e, ([AVal.dat (Dat.bool x0), AVal.agg [(Dat.int IntKind.i64 x1, Own.none), (Dat.str x2, Own.none), (Dat.int IntKind.i64 x3, Own.none), (Dat.int IntKind.i64 x4, Own.none)], AVal.agg [(Dat.int IntKind.i64 x5, Own.none), (Dat.str x6, Own.none), (Dat.int IntKind.i64 x7, Own.none), (Dat.int IntKind.i64 x8, Own.none)]], [Box.cells [AVal.dat (Dat.str x9), AVal.dat (Dat.int IntKind.i64 x10)], Box.bld x11]))) := by kernel_rfl
def Sp.lex_scanner_text_L0 : Nat → Ty_lex_scanner_text_L0
  | 0 => fun _ _ _ _ _ _ _ _ _ _ _ _ _ _ => none
  | n + 1 => Sp.B_lex_scanner_text_L0 (Sp.lex_scanner_text_L0 n) Sp.lex_scanner_left'1 Sp.strings_Builder_String Sp.strings_Builder_Len Sp.strings_Builder_WriteByte
theorem E0_lex_scanner_text_L0 (p : Par)   : ∀ n, EntOkL (cfg p) 24 0 (P_lex_scanner_text_L0 (Sp.lex_scanner_text_L0  n) noneL3) := entL_rounds (tab_call (tab_call (tab_call (tab_call (tab_nil _) (E_lex_scanner_left'1 p (ent_none _ _))) (E_strings_Builder_String p (ent_none _ _))) (E_strings_Builder_Len p (ent_none _ _))) (E_strings_Builder_WriteByte p (ent_none _ _))) (by kernel_rfl) (fun c v γ K => by unfold P_lex_scanner_text_L0; split <;> rfl) fun n c v γ K q h => by
  unfold P_lex_scanner_text_L0 at h
  split at h
  · exact (e_lex_scanner_text_L0 p _ _ _ _ _ _ _ _ _ _ _ _ _ _ _ _ _ _ _).trans h
  · cases h
theorem E_lex_scanner_text_L0 (p : Par)   (n : Nat) {F : Loop3} (hF : EntOkL (cfg p) 24 0 F) : EntOkL (cfg p) 24 0 (P_lex_scanner_text_L0 (Sp.lex_scanner_text_L0  n) F) := by
  intro c v γ K q h
  unfold P_lex_scanner_text_L0 at h
  split at h
  · exact E0_lex_scanner_text_L0 p   n _ _ _ _ _ h
  · exact hF _ _ _ _ _ h
abbrev Ty_lex_scanner_text : Type 1 := ByteArray → Int → (γ : Type) → (Int → ByteArray → Int → Int → Bool → ByteArray → Int → Option γ) → Option γ
def P_lex_scanner_text (X : Ty_lex_scanner_text) (F : Ent3) : Ent3 := fun a s γ K => match a, s with
  | [AVal.ref 0 0], [Box.cells [AVal.dat (Dat.str b0), AVal.dat (Dat.int IntKind.i64 b1)]] => X b0 b1 γ (fun r0 r1 r2 r3 r4 r5 r6 => K ([(AVal.agg [(Dat.int IntKind.i64 r0, Own.none), (Dat.str r1, Own.none), (Dat.int IntKind.i64 r2, Own.none), (Dat.int IntKind.i64 r3, Own.none)], Own.none), (AVal.dat (Dat.bool r4), Own.none)], [Box.cells [AVal.dat (Dat.str r5), AVal.dat (Dat.int IntKind.i64 r6)]]))
  | a, s => F a s γ K
def T_lex_scanner_text (x_lex_scanner_text_L0 : Ty_lex_scanner_text_L0) : CallK := noneK
def L_lex_scanner_text (x_lex_scanner_text_L0 : Ty_lex_scanner_text_L0) : LoopK := (addL noneL 24 0 (P_lex_scanner_text_L0 x_lex_scanner_text_L0 noneL3))
def Sp.B_lex_scanner_text (x_lex_scanner_text_L0 : Ty_lex_scanner_text_L0) (b0 : ByteArray) (b1 : Int) (γ : Type) (K : Int → ByteArray → Int → Int → Bool → ByteArray → Int → Option γ) : Option γ := x_lex_scanner_text_L0 false 0 (bs []) 0 0 4 (bs []) 0 b1 b0 (IntKind.wrap IntKind.i64 (b1 + 1)) (bs []) γ fun (z4 : Ex) (z5 : Bool) (z6 : Int) (z7 : ByteArray) (z8 z9 z10 : Int) (z11 : ByteArray) (z12 z13 : Int) (z14 : ByteArray) (z15 : Int) (z16 : ByteArray) => bif Ex.isExit z4 0 then K z10 z11 z12 z13 false z14 z15 else bif Ex.isRet z4 then K z6 z7 z8 z9 z5 z14 z15 else none
theorem e_lex_scanner_text (p : Par) (x_lex_scanner_text_L0 : Ty_lex_scanner_text_L0) (b0 : ByteArray) (b1 : Int) (γ : Type) (K : List Ent × Sig → Option γ) : evFK (cfg p) (T_lex_scanner_text x_lex_scanner_text_L0) (L_lex_scanner_text x_lex_scanner_text_L0) 24 [AVal.ref 0 0] [Box.cells [AVal.dat (Dat.str b0), AVal.dat (Dat.int IntKind.i64 b1)]] γ K = Sp.B_lex_scanner_text x_lex_scanner_text_L0 b0 b1 γ (fun r0 r1 r2 r3 r4 r5 r6 => K ([(AVal.agg [(Dat.int IntKind.i64 r0, Own.none), (Dat.str r1, Own.none), (Dat.int IntKind.i64 r2, Own.none), (Dat.int IntKind.i64 r3, Own.none)], Own.none), (AVal.dat (Dat.bool r4), Own.none)], [Box.cells [AVal.dat (Dat.str r5), AVal.dat (Dat.int IntKind.i64 r6)]])) := by kernel_rfl
def Sp.lex_scanner_text : Ty_lex_scanner_text := Sp.B_lex_scanner_text (Sp.lex_scanner_text_L0 fuel)
theorem E_lex_scanner_text (p : Par) {F : Ent3} (hF : EntOk (cfg p) 24 F) : EntOk (cfg p) 24 (P_lex_scanner_text Sp.lex_scanner_text F) := by
  intro a s γ K q h
  unfold P_lex_scanner_text at h
  split at h
  · exact body_ok (tab_loop (tab_nil _) (E_lex_scanner_text_L0 p fuel (entL_none _ _ _))) rfl ((e_lex_scanner_text p _ _ _ _ _).trans h)
  · exact hF _ _ _ _ _ h
abbrev Ty_lex_digit : Type 1 := Int → (γ : Type) → (Bool → Option γ) → Option γ
def P_lex_digit (X : Ty_lex_digit) (F : Ent3) : Ent3 := fun a s γ K => match a, s with
  | [AVal.dat (Dat.int IntKind.u8 v_c)], [] => X v_c γ (fun r0 => K ([(AVal.dat (Dat.bool r0), Own.none)], []))
  | a, s => F a s γ K
def T_lex_digit  : CallK := noneK
def L_lex_digit  : LoopK := noneL
def Sp.B_lex_digit  (v_c : Int) (γ : Type) (K : Bool → Option γ) : Option γ := bif decide (48 ≤ v_c) then K (decide (v_c ≤ 57)) else K false
theorem e_lex_digit (p : Par)  (v_c : Int) (γ : Type) (K : List Ent × Sig → Option γ) : evFK (cfg p) (T_lex_digit ) (L_lex_digit ) 25 [AVal.dat (Dat.int IntKind.u8 v_c)] [] γ K = Sp.B_lex_digit  v_c γ (fun r0 => K ([(AVal.dat (Dat.bool r0), Own.none)], [])) := by kernel_rfl
def Sp.lex_digit : Ty_lex_digit := Sp.B_lex_digit 
theorem E_lex_digit (p : Par) {F : Ent3} (hF : EntOk (cfg p) 25 F) : EntOk (cfg p) 25 (P_lex_digit Sp.lex_digit F) := by
  intro a s γ K q h
  unfold P_lex_digit at h
  split at h
  · exact body_ok (tab_nil _) rfl ((e_lex_digit p  _ _ _).trans h)
  · exact hF _ _ _ _ _ h
abbrev Ty_lex_letter : Type 1 := Int → (γ : Type) → (Bool → Option γ) → Option γ
def P_lex_letter (X : Ty_lex_letter) (F : Ent3) : Ent3 := fun a s γ K => match a, s with
  | [AVal.dat (Dat.int IntKind.u8 v_c)], [] => X v_c γ (fun r0 => K ([(AVal.dat (Dat.bool r0), Own.none)], []))
  | a, s => F a s γ K
def T_lex_letter  : CallK := noneK
def L_lex_letter  : LoopK := noneL
def Sp.B_lex_letter  (v_c : Int) (γ : Type) (K : Bool → Option γ) : Option γ := bif decide (97 ≤ IntKind.wrap IntKind.u8 (Int.ofNat (BitVec.toFin (BitVec.ofInt (IntKind.bits IntKind.u8) v_c ||| BitVec.ofInt (IntKind.bits IntKind.u8) 32)).1)) then bif decide (IntKind.wrap IntKind.u8 (Int.ofNat (BitVec.toFin (BitVec.ofInt (IntKind.bits IntKind.u8) v_c ||| BitVec.ofInt (IntKind.bits IntKind.u8) 32)).1) ≤ 122) then K true else K (decide (v_c = 95)) else K (decide (v_c = 95))
theorem e_lex_letter (p : Par)  (v_c : Int) (γ : Type) (K : List Ent × Sig → Option γ) : evFK (cfg p) (T_lex_letter ) (L_lex_letter ) 19 [AVal.dat (Dat.int IntKind.u8 v_c)] [] γ K = Sp.B_lex_letter  v_c γ (fun r0 => K ([(AVal.dat (Dat.bool r0), Own.none)], [])) := by kernel_rfl
def Sp.lex_letter : Ty_lex_letter := Sp.B_lex_letter 
theorem E_lex_letter (p : Par) {F : Ent3} (hF : EntOk (cfg p) 19 F) : EntOk (cfg p) 19 (P_lex_letter Sp.lex_letter F) := by
  intro a s γ K q h
  unfold P_lex_letter at h
  split at h
  · exact body_ok (tab_nil _) rfl ((e_lex_letter p  _ _ _).trans h)
  · exact hF _ _ _ _ _ h
abbrev Ty_lex_scanner_run_L0 : Type 1 := Int → ByteArray → Int → (γ : Type) → (Ex → ByteArray → Int → Option γ) → Option γ
def P_lex_scanner_run_L0 (X : Ty_lex_scanner_run_L0) (F : Loop3) : Loop3 := fun a s γ K => match a, s with
  | [AVal.ref 0 0, AVal.dat (Dat.int IntKind.i64 v_from)], ([], [Box.cells [AVal.dat (Dat.str b0), AVal.dat (Dat.int IntKind.i64 b1)]]) => X v_from b0 b1 γ (fun e x0 x1 => K (e, ([], [Box.cells [AVal.dat (Dat.str x0), AVal.dat (Dat.int IntKind.i64 x1)]])))
  | a, s => F a s γ K
def T_lex_scanner_run_L0 (x_lex_scanner_left : Ty_lex_scanner_left) (x_lex_letter : Ty_lex_letter) (x_lex_digit : Ty_lex_digit) : CallK := (addK (addK (addK noneK 14 (P_lex_scanner_left x_lex_scanner_left none3)) 19 (P_lex_letter x_lex_letter none3)) 25 (P_lex_digit x_lex_digit none3))
def L_lex_scanner_run_L0 (x_lex_scanner_left : Ty_lex_scanner_left) (x_lex_letter : Ty_lex_letter) (x_lex_digit : Ty_lex_digit) : LoopK := noneL
def Sp.B_lex_scanner_run_L0 (x_lex_scanner_run_L0 : Ty_lex_scanner_run_L0) (x_lex_scanner_left : Ty_lex_scanner_left) (x_lex_letter : Ty_lex_letter) (x_lex_digit : Ty_lex_digit) (v_from : Int) (b0 : ByteArray) (b1 : Int) (γ : Type) (K : Ex → ByteArray → Int → Option γ) : Option γ := x_lex_scanner_left b0 b1 γ fun (z5 : Bool) (z6 : ByteArray) (z7 : Int) => bif z5 then byteAt z6 z7 fun (z8 : UInt8) => x_lex_letter (Int.ofNat (BitVec.toFin (UInt8.toBitVec z8)).1) γ fun (z9 : Bool) => bif z9 then x_lex_scanner_run_L0 v_from z6 (IntKind.wrap IntKind.i64 (z7 + 1)) γ K else byteAt z6 z7 fun (z10 : UInt8) => x_lex_digit (Int.ofNat (BitVec.toFin (UInt8.toBitVec z10)).1) γ fun (z11 : Bool) => bif z11 then x_lex_scanner_run_L0 v_from z6 (IntKind.wrap IntKind.i64 (z7 + 1)) γ K else K (Ex.exit 0) z6 z7 else K (Ex.exit 0) z6 z7
theorem e_lex_scanner_run_L0 (p : Par) (x_lex_scanner_run_L0 : Ty_lex_scanner_run_L0) (x_lex_scanner_left : Ty_lex_scanner_left) (x_lex_letter : Ty_lex_letter) (x_lex_digit : Ty_lex_digit) (v_from : Int) (b0 : ByteArray) (b1 : Int) (γ : Type) (K : Ex × Vars → Option γ) : roundK (cfg p) (T_lex_scanner_run_L0 x_lex_scanner_left x_lex_letter x_lex_digit) (L_lex_scanner_run_L0 x_lex_scanner_left x_lex_letter x_lex_digit) 20 0 [AVal.ref 0 0, AVal.dat (Dat.int IntKind.i64 v_from)] ([], [Box.cells [AVal.dat (Dat.str b0), AVal.dat (Dat.int IntKind.i64 b1)]]) γ (contL (fun v => P_lex_scanner_run_L0 x_lex_scanner_run_L0 noneL3 [AVal.ref 0 0, AVal.dat (Dat.int IntKind.i64 v_from)] v γ K) K) = Sp.B_lex_scanner_run_L0 x_lex_scanner_run_L0 x_lex_scanner_left x_lex_letter x_lex_digit v_from b0 b1 γ (fun e x0 x1 => K (e, ([], [Box.cells [AVal.dat (Dat.str x0), AVal.dat (Dat.int IntKind.i64 x1)]]))) := by kernel_rfl
def Sp.lex_scanner_run_L0 : Nat → Ty_lex_scanner_run_L0
  | 0 => fun _ _ _ _ _ => none
  | n + 1 => Sp.B_lex_scanner_run_L0 (Sp.lex_scanner_run_L0 n) Sp.lex_scanner_left Sp.lex_letter Sp.lex_digit
theorem E0_lex_scanner_run_L0 (p : Par)   : ∀ n, EntOkL (cfg p) 20 0 (P_lex_scanner_run_L0 (Sp.lex_scanner_run_L0  n) noneL3) := entL_rounds (tab_call (tab_call (tab_call (tab_nil _) (E_lex_scanner_left p (ent_none _ _))) (E_lex_letter p (ent_none _ _))) (E_lex_digit p (ent_none _ _))) (by kernel_rfl) (fun c v γ K => by unfold P_lex_scanner_run_L0; split <;> rfl) fun n c v γ K q h => by
  unfold P_lex_scanner_run_L0 at h
  split at h
  · exact (e_lex_scanner_run_L0 p _ _ _ _ _ _ _ _ _).trans h
  · cases h
theorem E_lex_scanner_run_L0 (p : Par)   (n : Nat) {F : Loop3} (hF : EntOkL (cfg p) 20 0 F) : EntOkL (cfg p) 20 0 (P_lex_scanner_run_L0 (Sp.lex_scanner_run_L0  n) F) := by
  intro c v γ K q h
  unfold P_lex_scanner_run_L0 at h
  split at h
  · exact E0_lex_scanner_run_L0 p   n _ _ _ _ _ h
  · exact hF _ _ _ _ _ h
abbrev Ty_lex_scanner_run : Type 1 := ByteArray → Int → (γ : Type) → (ByteArray → ByteArray → Int → Option γ) → Option γ
def P_lex_scanner_run (X : Ty_lex_scanner_run) (F : Ent3) : Ent3 := fun a s γ K => match a, s with
  | [AVal.ref 0 0], [Box.cells [AVal.dat (Dat.str b0), AVal.dat (Dat.int IntKind.i64 b1)]] => X b0 b1 γ (fun r0 r1 r2 => K ([(AVal.dat (Dat.str r0), Own.none)], [Box.cells [AVal.dat (Dat.str r1), AVal.dat (Dat.int IntKind.i64 r2)]]))
  | a, s => F a s γ K
def T_lex_scanner_run (x_lex_scanner_run_L0 : Ty_lex_scanner_run_L0) : CallK := noneK
def L_lex_scanner_run (x_lex_scanner_run_L0 : Ty_lex_scanner_run_L0) : LoopK := (addL noneL 20 0 (P_lex_scanner_run_L0 x_lex_scanner_run_L0 noneL3))
def Sp.B_lex_scanner_run (x_lex_scanner_run_L0 : Ty_lex_scanner_run_L0) (b0 : ByteArray) (b1 : Int) (γ : Type) (K : ByteArray → ByteArray → Int → Option γ) : Option γ := x_lex_scanner_run_L0 b1 b0 b1 γ fun (z4 : Ex) (z5 : ByteArray) (z6 : Int) => bif Ex.isExit z4 0 then bif decide (0 ≤ b1) && decide (b1 ≤ z6) && decide (z6 ≤ Int.ofNat (ByteArray.size z5)) && true then K (ByteArray.extract z5 (Int.toNat b1) (Int.toNat z6)) z5 z6 else none else bif Ex.isRet z4 then none else none
theorem e_lex_scanner_run (p : Par) (x_lex_scanner_run_L0 : Ty_lex_scanner_run_L0) (b0 : ByteArray) (b1 : Int) (γ : Type) (K : List Ent × Sig → Option γ) : evFK (cfg p) (T_lex_scanner_run x_lex_scanner_run_L0) (L_lex_scanner_run x_lex_scanner_run_L0) 20 [AVal.ref 0 0] [Box.cells [AVal.dat (Dat.str b0), AVal.dat (Dat.int IntKind.i64 b1)]] γ K = Sp.B_lex_scanner_run x_lex_scanner_run_L0 b0 b1 γ (fun r0 r1 r2 => K ([(AVal.dat (Dat.str r0), Own.none)], [Box.cells [AVal.dat (Dat.str r1), AVal.dat (Dat.int IntKind.i64 r2)]])) := by kernel_rfl
def Sp.lex_scanner_run : Ty_lex_scanner_run := Sp.B_lex_scanner_run (Sp.lex_scanner_run_L0 fuel)
theorem E_lex_scanner_run (p : Par) {F : Ent3} (hF : EntOk (cfg p) 20 F) : EntOk (cfg p) 20 (P_lex_scanner_run Sp.lex_scanner_run F) := by
  intro a s γ K q h
  unfold P_lex_scanner_run at h
  split at h
  · exact body_ok (tab_loop (tab_nil _) (E_lex_scanner_run_L0 p fuel (entL_none _ _ _))) rfl ((e_lex_scanner_run p _ _ _ _ _).trans h)
  · exact hF _ _ _ _ _ h
abbrev Ty_lex_scanner_number_L0 : Type 1 := Int → Bool → Int → Int → ByteArray → Int → Int → Int → ByteArray → Int → Int → ByteArray → Int → (γ : Type) → (Ex → Bool → Int → Int → ByteArray → Int → Int → Int → ByteArray → Int → Int → ByteArray → Int → Option γ) → Option γ
def P_lex_scanner_number_L0 (X : Ty_lex_scanner_number_L0) (F : Loop3) : Loop3 := fun a s γ K => match a, s with
  | [AVal.loc 2 0, AVal.loc 4 0, AVal.dat (Dat.int IntKind.i64 v_)], ([AVal.dat (Dat.bool v__1), AVal.dat (Dat.int IntKind.i64 v__2), AVal.agg [(Dat.int IntKind.i64 v_box0, Own.none), (Dat.str v_box1, Own.none), (Dat.int IntKind.i64 v_box2, Own.none), (Dat.int IntKind.i64 v_box3, Own.none)], AVal.agg [(Dat.int IntKind.i64 v_box0_1, Own.none), (Dat.str v_box1_1, Own.none), (Dat.int IntKind.i64 v_box2_1, Own.none), (Dat.int IntKind.i64 v_box3_1, Own.none)]], [Box.cells [AVal.dat (Dat.str b0), AVal.dat (Dat.int IntKind.i64 b1)]]) => X v_ v__1 v__2 v_box0 v_box1 v_box2 v_box3 v_box0_1 v_box1_1 v_box2_1 v_box3_1 b0 b1 γ (fun e x0 x1 x2 x3 x4 x5 x6 x7 x8 x9 x10 x11 => K (e, ([AVal.dat (Dat.bool x0), AVal.dat (Dat.int IntKind.i64 x1), AVal.agg [(Dat.int IntKind.i64 x2, Own.none), (Dat.str x3, Own.none), (Dat.int IntKind.i64 x4, Own.none), (Dat.int IntKind.i64 x5, Own.none)], AVal.agg [(Dat.int IntKind.i64 x6, Own.none), (Dat.str x7, Own.none), (Dat.int IntKind.i64 x8, Own.none), (Dat.int IntKind.i64 x9, Own.none)]], [Box.cells [AVal.dat (Dat.str x10), AVal.dat (Dat.int IntKind.i64 x11)]])))
  | a, s => F a s γ K
def T_lex_scanner_number_L0 (x_lex_digit : Ty_lex_digit) : CallK := (addK noneK 25 (P_lex_digit x_lex_digit none3))
def L_lex_scanner_number_L0 (x_lex_digit : Ty_lex_digit) : LoopK := noneL
def Sp.B_lex_scanner_number_L0 (x_lex_scanner_number_L0 : Ty_lex_scanner_number_L0) (x_lex_digit : Ty_lex_digit) (v_ : Int) (v__1 : Bool) (v__2 : Int) (v_box0 : Int) (v_box1 : ByteArray) (v_box2 : Int) (v_box3 : Int) (v_box0_1 : Int) (v_box1_1 : ByteArray) (v_box2_1 : Int) (v_box3_1 : Int) (b0 : ByteArray) (b1 : Int) (γ : Type) (K : Ex → Bool → Int → Int → ByteArray → Int → Int → Int → ByteArray → Int → Int → ByteArray → Int → Option γ) : Option γ := bif decide (v__2 < v_) then byteAt v_box1_1 v__2 fun (z15 : UInt8) => x_lex_digit (Int.ofNat (BitVec.toFin (UInt8.toBitVec z15)).1) γ fun (z16 : Bool) => bif !z16 then K Ex.ret false v__2 v_box0_1 v_box1_1 v_box2_1 v_box3_1 v_box0_1 v_box1_1 v_box2_1 v_box3_1 b0 b1 else byteAt v_box1_1 v__2 fun (z17 : UInt8) => bif decide (9007199254740991 < IntKind.wrap IntKind.i64 (IntKind.wrap IntKind.i64 (10 * v_box2_1) + IntKind.wrap IntKind.i64 (IntKind.wrap IntKind.u8 (Int.ofNat (BitVec.toFin (UInt8.toBitVec z17)).1 - 48)))) then K Ex.ret false v__2 v_box0_1 v_box1_1 (IntKind.wrap IntKind.i64 (IntKind.wrap IntKind.i64 (10 * v_box2_1) + IntKind.wrap IntKind.i64 (IntKind.wrap IntKind.u8 (Int.ofNat (BitVec.toFin (UInt8.toBitVec z17)).1 - 48)))) v_box3_1 v_box0_1 v_box1_1 (IntKind.wrap IntKind.i64 (IntKind.wrap IntKind.i64 (10 * v_box2_1) + IntKind.wrap IntKind.i64 (IntKind.wrap IntKind.u8 (Int.ofNat (BitVec.toFin (UInt8.toBitVec z17)).1 - 48)))) v_box3_1 b0 b1 else x_lex_scanner_number_L0 v_ v__1 (IntKind.wrap IntKind.i64 (v__2 + 1)) v_box0 v_box1 v_box2 v_box3 v_box0_1 v_box1_1 (IntKind.wrap IntKind.i64 (IntKind.wrap IntKind.i64 (10 * v_box2_1) + IntKind.wrap IntKind.i64 (IntKind.wrap IntKind.u8 (Int.ofNat (BitVec.toFin (UInt8.toBitVec z17)).1 - 48)))) v_box3_1 b0 b1 γ K else K (Ex.exit 0) v__1 v__2 v_box0 v_box1 v_box2 v_box3 v_box0_1 v_box1_1 v_box2_1 v_box3_1 b0 b1
theorem e_lex_scanner_number_L0 (p : Par) (x_lex_scanner_number_L0 : Ty_lex_scanner_number_L0) (x_lex_digit : Ty_lex_digit) (v_ : Int) (v__1 : Bool) (v__2 : Int) (v_box0 : Int) (v_box1 : ByteArray) (v_box2 : Int) (v_box3 : Int) (v_box0_1 : Int) (v_box1_1 : ByteArray) (v_box2_1 : Int) (v_box3_1 : Int) (b0 : ByteArray) (b1 : Int) (γ : Type) (K : Ex × Vars → Option γ) : roundK (cfg p) (T_lex_scanner_number_L0 x_lex_digit) (L_lex_scanner_number_L0 x_lex_digit) 26 0 [AVal.loc 2 0, AVal.loc 4 0, AVal.dat (Dat.int IntKind.i64 v_)] ([AVal.dat (Dat.bool v__1), AVal.dat (Dat.int IntKind.i64 v__2), AVal.agg [(Dat.int IntKind.i64 v_box0, Own.none), (Dat.str v_box1, Own.none), (Dat.int IntKind.i64 v_box2, Own.none), (Dat.int IntKind.i64 v_box3, Own.none)], AVal.agg [(Dat.int IntKind.i64 v_box0_1, Own.none), (Dat.str v_box1_1, Own.none), (Dat.int IntKind.i64 v_box2_1, Own.none), (Dat.int IntKind.i64 v_box3_1, Own.none)]], [Box.cells [AVal.dat (Dat.str b0), AVal.dat (Dat.int IntKind.i64 b1)]]) γ (contL (fun v => P_lex_scanner_number_L0 x_lex_scanner_number_L0 noneL3 [AVal.loc 2 0, AVal.loc 4 0, AVal.dat (Dat.int IntKind.i64 v_)] v γ K) K) = Sp.B_lex_scanner_number_L0 x_lex_scanner_number_L0 x_lex_digit v_ v__1 v__2 v_box0 v_box1 v_box2 v_box3 v_box0_1 v_box1_1 v_box2_1 v_box3_1 b0 b1 γ (fun e x0 x1 x2 x3 x4 x5 x6 x7 x8 x9 x10 x11 => K (e, ([AVal.dat (Dat.bool x0), AVal.dat (Dat.int IntKind.i64 x1), AVal.agg [(Dat.int IntKind.i64 x2, Own.none), (Dat.str x3, Own.none), (Dat.int IntKind.i64 x4, Own.none), (Dat.int IntKind.i64 x5, Own.none)], AVal.agg [(Dat.int IntKind.i64 x6, Own.none), (Dat.str x7, Own.none), (Dat.int IntKind.i64 x8, Own.none), (Dat.int IntKind.i64 x9, Own.none)]], [Box.cells [AVal.dat (Dat.str x10), AVal.dat (Dat.int IntKind.i64 x11)]]))) := by kernel_rfl
def Sp.lex_scanner_number_L0 : Nat → Ty_lex_scanner_number_L0
  | 0 => fun _ _ _ _ _ _ _ _ _ _ _ _ _ _ _ => none
  | n + 1 => Sp.B_lex_scanner_number_L0 (Sp.lex_scanner_number_L0 n) Sp.lex_digit
theorem E0_lex_scanner_number_L0 (p : Par)   : ∀ n, EntOkL (cfg p) 26 0 (P_lex_scanner_number_L0 (Sp.lex_scanner_number_L0  n) noneL3) := entL_rounds (tab_call (tab_nil _) (E_lex_digit p (ent_none _ _))) (by kernel_rfl) (fun c v γ K => by unfold P_lex_scanner_number_L0; split <;> rfl) fun n c v γ K q h => by
  unfold P_lex_scanner_number_L0 at h
  split at h
  · exact (e_lex_scanner_number_L0 p _ _ _ _ _ _ _ _ _ _ _ _ _ _ _ _ _).trans h
  · cases h
theorem E_lex_scanner_number_L0 (p : Par)   (n : Nat) {F : Loop3} (hF : EntOkL (cfg p) 26 0 F) : EntOkL (cfg p) 26 0 (P_lex_scanner_number_L0 (Sp.lex_scanner_number_L0  n) F) := by
  intro c v γ K q h
  unfold P_lex_scanner_number_L0 at h
  split at h
  · exact E0_lex_scanner_number_L0 p   n _ _ _ _ _ h
  · exact hF _ _ _ _ _ h
abbrev Ty_lex_scanner_number : Type 1 := ByteArray → Int → (γ : Type) → (Int → ByteArray → Int → Int → Bool → ByteArray → Int → Option γ) → Option γ
def P_lex_scanner_number (X : Ty_lex_scanner_number) (F : Ent3) : Ent3 := fun a s γ K => match a, s with
  | [AVal.ref 0 0], [Box.cells [AVal.dat (Dat.str b0), AVal.dat (Dat.int IntKind.i64 b1)]] => X b0 b1 γ (fun r0 r1 r2 r3 r4 r5 r6 => K ([(AVal.agg [(Dat.int IntKind.i64 r0, Own.none), (Dat.str r1, Own.none), (Dat.int IntKind.i64 r2, Own.none), (Dat.int IntKind.i64 r3, Own.none)], Own.none), (AVal.dat (Dat.bool r4), Own.none)], [Box.cells [AVal.dat (Dat.str r5), AVal.dat (Dat.int IntKind.i64 r6)]]))
  | a, s => F a s γ K
def T_lex_scanner_number (x_lex_scanner_run : Ty_lex_scanner_run) (x_lex_scanner_number_L0 : Ty_lex_scanner_number_L0) : CallK := (addK noneK 20 (P_lex_scanner_run x_lex_scanner_run none3))
def L_lex_scanner_number (x_lex_scanner_run : Ty_lex_scanner_run) (x_lex_scanner_number_L0 : Ty_lex_scanner_number_L0) : LoopK := (addL noneL 26 0 (P_lex_scanner_number_L0 x_lex_scanner_number_L0 noneL3))
def Sp.B_lex_scanner_number (x_lex_scanner_run : Ty_lex_scanner_run) (x_lex_scanner_number_L0 : Ty_lex_scanner_number_L0) (b0 : ByteArray) (b1 : Int) (γ : Type) (K : Int → ByteArray → Int → Int → Bool → ByteArray → Int → Option γ) : Option γ := x_lex_scanner_run b0 b1 γ fun (z4 z5 : ByteArray) (z6 : Int) => x_lex_scanner_number_L0 (Int.ofNat (ByteArray.size z4)) false 0 0 (bs []) 0 0 3 z4 0 b1 z5 z6 γ fun (z7 : Ex) (z8 : Bool) (z9 z10 : Int) (z11 : ByteArray) (z12 z13 z14 : Int) (z15 : ByteArray) (z16 z17 : Int) (z18 : ByteArray) (z19 : Int) => bif Ex.isExit z7 0 then K z14 z15 z16 z17 true z18 z19 else bif Ex.isRet z7 then K z10 z11 z12 z13 z8 z18 z19 else none
theorem e_lex_scanner_number (p : Par) (x_lex_scanner_run : Ty_lex_scanner_run) (x_lex_scanner_number_L0 : Ty_lex_scanner_number_L0) (b0 : ByteArray) (b1 : Int) (γ : Type) (K : List Ent × Sig → Option γ) : evFK (cfg p) (T_lex_scanner_number x_lex_scanner_run x_lex_scanner_number_L0) (L_lex_scanner_number x_lex_scanner_run x_lex_scanner_number_L0) 26 [AVal.ref 0 0] [Box.cells [AVal.dat (Dat.str b0), AVal.dat (Dat.int IntKind.i64 b1)]] γ K = Sp.B_lex_scanner_number x_lex_scanner_run x_lex_scanner_number_L0 b0 b1 γ (fun r0 r1 r2 r3 r4 r5 r6 => K ([(AVal.agg [(Dat.int IntKind.i64 r0, Own.none), (Dat.str r1, Own.none), (Dat.int IntKind.i64 r2, Own.none), (Dat.int IntKind.i64 r3, Own.none)], Own.none), (AVal.dat (Dat.bool r4), Own.none)], [Box.cells [AVal.dat (Dat.str r5), AVal.dat (Dat.int IntKind.i64 r6)]])) := by kernel_rfl
def Sp.lex_scanner_number : Ty_lex_scanner_number := Sp.B_lex_scanner_number Sp.lex_scanner_run (Sp.lex_scanner_number_L0 fuel)
theorem E_lex_scanner_number (p : Par) {F : Ent3} (hF : EntOk (cfg p) 26 F) : EntOk (cfg p) 26 (P_lex_scanner_number Sp.lex_scanner_number F) := by
  intro a s γ K q h
  unfold P_lex_scanner_number at h
  split at h
  · exact body_ok (tab_loop (tab_call (tab_nil _) (E_lex_scanner_run p (ent_none _ _))) (E_lex_scanner_number_L0 p fuel (entL_none _ _ _))) rfl ((e_lex_scanner_number p _ _ _ _ _ _).trans h)
  · exact hF _ _ _ _ _ h
abbrev Ty_lex_Keys : Type 1 := (γ : Type) → (List (List Dat) → Option γ) → Option γ
def P_lex_Keys (X : Ty_lex_Keys) (F : Ent3) : Ent3 := fun a s γ K => match a, s with
  | [], [] => X  γ (fun r0 => K ([(AVal.dat (Dat.sl r0), Own.none)], []))
  | a, s => F a s γ K
def T_lex_Keys (x_strings_Split : Ty_strings_Split) : CallK := (addK noneK 21 (P_strings_Split x_strings_Split none3))
def L_lex_Keys (x_strings_Split : Ty_strings_Split) : LoopK := noneL
def Sp.B_lex_Keys (x_strings_Split : Ty_strings_Split)  (γ : Type) (K : List (List Dat) → Option γ) : Option γ := x_strings_Split (bs [65, 76, 76, 32, 65, 78, 68, 32, 65, 78, 84, 73, 32, 65, 83, 32, 66, 89, 32, 67, 79, 85, 78, 84, 32, 68, 69, 83, 67, 32, 68, 73, 83, 84, 73, 78, 67, 84, 32, 70, 65, 76, 83, 69, 32, 70, 82, 79, 77, 32, 71, 82, 79, 85, 80, 32, 73, 83, 32, 74, 79, 73, 78, 32, 76, 69, 70, 84, 32, 76, 73, 77, 73, 84, 32, 77, 65, 88, 32, 77, 73, 78, 32, 78, 79, 84, 32, 78, 85, 76, 76, 32, 79, 78, 32, 79, 82, 32, 79, 82, 68, 69, 82, 32, 83, 69, 76, 69, 67, 84, 32, 83, 69, 77, 73, 32, 83, 85, 77, 32, 84, 82, 85, 69, 32, 85, 78, 73, 79, 78, 32, 87, 72, 69, 82, 69]) (bs [32]) γ fun (z2 : List (List Dat)) => K z2
theorem e_lex_Keys (p : Par) (x_strings_Split : Ty_strings_Split)  (γ : Type) (K : List Ent × Sig → Option γ) : evFK (cfg p) (T_lex_Keys x_strings_Split) (L_lex_Keys x_strings_Split) 12 [] [] γ K = Sp.B_lex_Keys x_strings_Split  γ (fun r0 => K ([(AVal.dat (Dat.sl r0), Own.none)], [])) := by kernel_rfl
def Sp.lex_Keys : Ty_lex_Keys := Sp.B_lex_Keys Sp.strings_Split
theorem E_lex_Keys (p : Par) {F : Ent3} (hF : EntOk (cfg p) 12 F) : EntOk (cfg p) 12 (P_lex_Keys Sp.lex_Keys F) := by
  intro a s γ K q h
  unfold P_lex_Keys at h
  split at h
  · exact body_ok (tab_call (tab_nil _) (E_strings_Split p (ent_none _ _))) rfl ((e_lex_Keys p _ _ _ ).trans h)
  · exact hF _ _ _ _ _ h
abbrev Ty_slices_Index_string_string_L0 : Type 1 := List (List Dat) → ByteArray → Int → Int → Int → (γ : Type) → (Ex → Int → Int → Option γ) → Option γ
def P_slices_Index_string_string_L0 (X : Ty_slices_Index_string_string_L0) (F : Loop3) : Loop3 := fun a s γ K => match a, s with
  | [AVal.dat (Dat.sl v_s), AVal.dat (Dat.str v_v), AVal.dat (Dat.int IntKind.i64 v_)], ([AVal.dat (Dat.int IntKind.i64 v__1), AVal.dat (Dat.int IntKind.i64 v__2)], []) => X v_s v_v v_ v__1 v__2 γ (fun e x0 x1 => K (e, ([AVal.dat (Dat.int IntKind.i64 x0), AVal.dat (Dat.int IntKind.i64 x1)], [])))
  | a, s => F a s γ K
def T_slices_Index_string_string_L0  : CallK := noneK
def L_slices_Index_string_string_L0  : LoopK := noneL
def Sp.B_slices_Index_string_string_L0 (x_slices_Index_string_string_L0 : Ty_slices_Index_string_string_L0)  (v_s : List (List Dat)) (v_v : ByteArray) (v_ : Int) (v__1 : Int) (v__2 : Int) (γ : Type) (K : Ex → Int → Int → Option γ) : Option γ := bif decide (v__2 < v_) then elemAt v_s v__2 fun (z7 : List Dat) => bif List.length z7 == 1 then cellAt z7 0 fun (z8 : Dat) => asStr z8 fun (z9 : ByteArray) => bif decide (v_v = z9) then K Ex.ret v__2 v__2 else x_slices_Index_string_string_L0 v_s v_v v_ v__1 (IntKind.wrap IntKind.i64 (v__2 + 1)) γ K else none else K (Ex.exit 0) v__1 v__2
theorem e_slices_Index_string_string_L0 (p : Par) (x_slices_Index_string_string_L0 : Ty_slices_Index_string_string_L0)  (v_s : List (List Dat)) (v_v : ByteArray) (v_ : Int) (v__1 : Int) (v__2 : Int) (γ : Type) (K : Ex × Vars → Option γ) : roundK (cfg p) (T_slices_Index_string_string_L0 ) (L_slices_Index_string_string_L0 ) 33 0 [AVal.dat (Dat.sl v_s), AVal.dat (Dat.str v_v), AVal.dat (Dat.int IntKind.i64 v_)] ([AVal.dat (Dat.int IntKind.i64 v__1), AVal.dat (Dat.int IntKind.i64 v__2)], []) γ (contL (fun v => P_slices_Index_string_string_L0 x_slices_Index_string_string_L0 noneL3 [AVal.dat (Dat.sl v_s), AVal.dat (Dat.str v_v), AVal.dat (Dat.int IntKind.i64 v_)] v γ K) K) = Sp.B_slices_Index_string_string_L0 x_slices_Index_string_string_L0  v_s v_v v_ v__1 v__2 γ (fun e x0 x1 => K (e, ([AVal.dat (Dat.int IntKind.i64 x0), AVal.dat (Dat.int IntKind.i64 x1)], []))) := by kernel_rfl
def Sp.slices_Index_string_string_L0 : Nat → Ty_slices_Index_string_string_L0
  | 0 => fun _ _ _ _ _ _ _ => none
  | n + 1 => Sp.B_slices_Index_string_string_L0 (Sp.slices_Index_string_string_L0 n) 
theorem E0_slices_Index_string_string_L0 (p : Par)   : ∀ n, EntOkL (cfg p) 33 0 (P_slices_Index_string_string_L0 (Sp.slices_Index_string_string_L0  n) noneL3) := entL_rounds (tab_nil _) (by kernel_rfl) (fun c v γ K => by unfold P_slices_Index_string_string_L0; split <;> rfl) fun n c v γ K q h => by
  unfold P_slices_Index_string_string_L0 at h
  split at h
  · exact (e_slices_Index_string_string_L0 p _  _ _ _ _ _ _ _).trans h
  · cases h
theorem E_slices_Index_string_string_L0 (p : Par)   (n : Nat) {F : Loop3} (hF : EntOkL (cfg p) 33 0 F) : EntOkL (cfg p) 33 0 (P_slices_Index_string_string_L0 (Sp.slices_Index_string_string_L0  n) F) := by
  intro c v γ K q h
  unfold P_slices_Index_string_string_L0 at h
  split at h
  · exact E0_slices_Index_string_string_L0 p   n _ _ _ _ _ h
  · exact hF _ _ _ _ _ h
abbrev Ty_slices_Index_string_string : Type 1 := List (List Dat) → ByteArray → (γ : Type) → (Int → Option γ) → Option γ
def P_slices_Index_string_string (X : Ty_slices_Index_string_string) (F : Ent3) : Ent3 := fun a s γ K => match a, s with
  | [AVal.dat (Dat.sl v_s), AVal.dat (Dat.str v_v)], [] => X v_s v_v γ (fun r0 => K ([(AVal.dat (Dat.int IntKind.i64 r0), Own.none)], []))
  | a, s => F a s γ K
def T_slices_Index_string_string (x_slices_Index_string_string_L0 : Ty_slices_Index_string_string_L0) : CallK := noneK
def L_slices_Index_string_string (x_slices_Index_string_string_L0 : Ty_slices_Index_string_string_L0) : LoopK := (addL noneL 33 0 (P_slices_Index_string_string_L0 x_slices_Index_string_string_L0 noneL3))
def Sp.B_slices_Index_string_string (x_slices_Index_string_string_L0 : Ty_slices_Index_string_string_L0) (v_s : List (List Dat)) (v_v : ByteArray) (γ : Type) (K : Int → Option γ) : Option γ := x_slices_Index_string_string_L0 v_s v_v (Int.ofNat (List.length v_s)) 0 0 γ fun (z4 : Ex) (z5 z6 : Int) => bif Ex.isExit z4 0 then K (-1) else bif Ex.isRet z4 then K z5 else none
theorem e_slices_Index_string_string (p : Par) (x_slices_Index_string_string_L0 : Ty_slices_Index_string_string_L0) (v_s : List (List Dat)) (v_v : ByteArray) (γ : Type) (K : List Ent × Sig → Option γ) : evFK (cfg p) (T_slices_Index_string_string x_slices_Index_string_string_L0) (L_slices_Index_string_string x_slices_Index_string_string_L0) 33 [AVal.dat (Dat.sl v_s), AVal.dat (Dat.str v_v)] [] γ K = Sp.B_slices_Index_string_string x_slices_Index_string_string_L0 v_s v_v γ (fun r0 => K ([(AVal.dat (Dat.int IntKind.i64 r0), Own.none)], [])) := by kernel_rfl
def Sp.slices_Index_string_string : Ty_slices_Index_string_string := Sp.B_slices_Index_string_string (Sp.slices_Index_string_string_L0 fuel)
theorem E_slices_Index_string_string (p : Par) {F : Ent3} (hF : EntOk (cfg p) 33 F) : EntOk (cfg p) 33 (P_slices_Index_string_string Sp.slices_Index_string_string F) := by
  intro a s γ K q h
  unfold P_slices_Index_string_string at h
  split at h
  · exact body_ok (tab_loop (tab_nil _) (E_slices_Index_string_string_L0 p fuel (entL_none _ _ _))) rfl ((e_slices_Index_string_string p _ _ _ _ _).trans h)
  · exact hF _ _ _ _ _ h
abbrev Ty_slices_Contains_string_string : Type 1 := List (List Dat) → ByteArray → (γ : Type) → (Bool → Option γ) → Option γ
def P_slices_Contains_string_string (X : Ty_slices_Contains_string_string) (F : Ent3) : Ent3 := fun a s γ K => match a, s with
  | [AVal.dat (Dat.sl v_s), AVal.dat (Dat.str v_v)], [] => X v_s v_v γ (fun r0 => K ([(AVal.dat (Dat.bool r0), Own.none)], []))
  | a, s => F a s γ K
def T_slices_Contains_string_string (x_slices_Index_string_string : Ty_slices_Index_string_string) : CallK := (addK noneK 33 (P_slices_Index_string_string x_slices_Index_string_string none3))
def L_slices_Contains_string_string (x_slices_Index_string_string : Ty_slices_Index_string_string) : LoopK := noneL
def Sp.B_slices_Contains_string_string (x_slices_Index_string_string : Ty_slices_Index_string_string) (v_s : List (List Dat)) (v_v : ByteArray) (γ : Type) (K : Bool → Option γ) : Option γ := x_slices_Index_string_string v_s v_v γ fun (z4 : Int) => K (decide (0 ≤ z4))
theorem e_slices_Contains_string_string (p : Par) (x_slices_Index_string_string : Ty_slices_Index_string_string) (v_s : List (List Dat)) (v_v : ByteArray) (γ : Type) (K : List Ent × Sig → Option γ) : evFK (cfg p) (T_slices_Contains_string_string x_slices_Index_string_string) (L_slices_Contains_string_string x_slices_Index_string_string) 18 [AVal.dat (Dat.sl v_s), AVal.dat (Dat.str v_v)] [] γ K = Sp.B_slices_Contains_string_string x_slices_Index_string_string v_s v_v γ (fun r0 => K ([(AVal.dat (Dat.bool r0), Own.none)], [])) := by kernel_rfl
def Sp.slices_Contains_string_string : Ty_slices_Contains_string_string := Sp.B_slices_Contains_string_string Sp.slices_Index_string_string
theorem E_slices_Contains_string_string (p : Par) {F : Ent3} (hF : EntOk (cfg p) 18 F) : EntOk (cfg p) 18 (P_slices_Contains_string_string Sp.slices_Contains_string_string F) := by
  intro a s γ K q h
  unfold P_slices_Contains_string_string at h
  split at h
  · exact body_ok (tab_call (tab_nil _) (E_slices_Index_string_string p (ent_none _ _))) rfl ((e_slices_Contains_string_string p _ _ _ _ _).trans h)
  · exact hF _ _ _ _ _ h
abbrev Ty_lex_Key : Type 1 := ByteArray → (γ : Type) → (Bool → Option γ) → Option γ
def P_lex_Key (X : Ty_lex_Key) (F : Ent3) : Ent3 := fun a s γ K => match a, s with
  | [AVal.dat (Dat.str v_word)], [] => X v_word γ (fun r0 => K ([(AVal.dat (Dat.bool r0), Own.none)], []))
  | a, s => F a s γ K
def T_lex_Key (x_lex_Keys : Ty_lex_Keys) (x_slices_Contains_string_string : Ty_slices_Contains_string_string) : CallK := (addK (addK noneK 12 (P_lex_Keys x_lex_Keys none3)) 18 (P_slices_Contains_string_string x_slices_Contains_string_string none3))
def L_lex_Key (x_lex_Keys : Ty_lex_Keys) (x_slices_Contains_string_string : Ty_slices_Contains_string_string) : LoopK := noneL
def Sp.B_lex_Key (x_lex_Keys : Ty_lex_Keys) (x_slices_Contains_string_string : Ty_slices_Contains_string_string) (v_word : ByteArray) (γ : Type) (K : Bool → Option γ) : Option γ := x_lex_Keys γ fun (z3 : List (List Dat)) => x_slices_Contains_string_string z3 v_word γ fun (z4 : Bool) => K z4
theorem e_lex_Key (p : Par) (x_lex_Keys : Ty_lex_Keys) (x_slices_Contains_string_string : Ty_slices_Contains_string_string) (v_word : ByteArray) (γ : Type) (K : List Ent × Sig → Option γ) : evFK (cfg p) (T_lex_Key x_lex_Keys x_slices_Contains_string_string) (L_lex_Key x_lex_Keys x_slices_Contains_string_string) 10 [AVal.dat (Dat.str v_word)] [] γ K = Sp.B_lex_Key x_lex_Keys x_slices_Contains_string_string v_word γ (fun r0 => K ([(AVal.dat (Dat.bool r0), Own.none)], [])) := by kernel_rfl
def Sp.lex_Key : Ty_lex_Key := Sp.B_lex_Key Sp.lex_Keys Sp.slices_Contains_string_string
theorem E_lex_Key (p : Par) {F : Ent3} (hF : EntOk (cfg p) 10 F) : EntOk (cfg p) 10 (P_lex_Key Sp.lex_Key F) := by
  intro a s γ K q h
  unfold P_lex_Key at h
  split at h
  · exact body_ok (tab_call (tab_call (tab_nil _) (E_lex_Keys p (ent_none _ _))) (E_slices_Contains_string_string p (ent_none _ _))) rfl ((e_lex_Key p _ _ _ _ _).trans h)
  · exact hF _ _ _ _ _ h
abbrev Ty_lex_scanner_word : Type 1 := ByteArray → Int → (γ : Type) → (Int → ByteArray → Int → Int → Bool → ByteArray → Int → Option γ) → Option γ
def P_lex_scanner_word (X : Ty_lex_scanner_word) (F : Ent3) : Ent3 := fun a s γ K => match a, s with
  | [AVal.ref 0 0], [Box.cells [AVal.dat (Dat.str b0), AVal.dat (Dat.int IntKind.i64 b1)]] => X b0 b1 γ (fun r0 r1 r2 r3 r4 r5 r6 => K ([(AVal.agg [(Dat.int IntKind.i64 r0, Own.none), (Dat.str r1, Own.none), (Dat.int IntKind.i64 r2, Own.none), (Dat.int IntKind.i64 r3, Own.none)], Own.none), (AVal.dat (Dat.bool r4), Own.none)], [Box.cells [AVal.dat (Dat.str r5), AVal.dat (Dat.int IntKind.i64 r6)]]))
  | a, s => F a s γ K
def T_lex_scanner_word (x_lex_scanner_run : Ty_lex_scanner_run) (x_lex_Key : Ty_lex_Key) : CallK := (addK (addK noneK 20 (P_lex_scanner_run x_lex_scanner_run none3)) 10 (P_lex_Key x_lex_Key none3))
def L_lex_scanner_word (x_lex_scanner_run : Ty_lex_scanner_run) (x_lex_Key : Ty_lex_Key) : LoopK := noneL
def Sp.B_lex_scanner_word (x_lex_scanner_run : Ty_lex_scanner_run) (x_lex_Key : Ty_lex_Key) (b0 : ByteArray) (b1 : Int) (γ : Type) (K : Int → ByteArray → Int → Int → Bool → ByteArray → Int → Option γ) : Option γ := x_lex_scanner_run b0 b1 γ fun (z4 z5 : ByteArray) (z6 : Int) => x_lex_Key z4 γ fun (z7 : Bool) => bif z7 then K 2 z4 0 b1 (decide (Int.ofNat (ByteArray.size z4) ≤ 24)) z5 z6 else K 1 z4 0 b1 (decide (Int.ofNat (ByteArray.size z4) ≤ 24)) z5 z6
theorem e_lex_scanner_word (p : Par) (x_lex_scanner_run : Ty_lex_scanner_run) (x_lex_Key : Ty_lex_Key) (b0 : ByteArray) (b1 : Int) (γ : Type) (K : List Ent × Sig → Option γ) : evFK (cfg p) (T_lex_scanner_word x_lex_scanner_run x_lex_Key) (L_lex_scanner_word x_lex_scanner_run x_lex_Key) 27 [AVal.ref 0 0] [Box.cells [AVal.dat (Dat.str b0), AVal.dat (Dat.int IntKind.i64 b1)]] γ K = Sp.B_lex_scanner_word x_lex_scanner_run x_lex_Key b0 b1 γ (fun r0 r1 r2 r3 r4 r5 r6 => K ([(AVal.agg [(Dat.int IntKind.i64 r0, Own.none), (Dat.str r1, Own.none), (Dat.int IntKind.i64 r2, Own.none), (Dat.int IntKind.i64 r3, Own.none)], Own.none), (AVal.dat (Dat.bool r4), Own.none)], [Box.cells [AVal.dat (Dat.str r5), AVal.dat (Dat.int IntKind.i64 r6)]])) := by kernel_rfl
def Sp.lex_scanner_word : Ty_lex_scanner_word := Sp.B_lex_scanner_word Sp.lex_scanner_run Sp.lex_Key
theorem E_lex_scanner_word (p : Par) {F : Ent3} (hF : EntOk (cfg p) 27 F) : EntOk (cfg p) 27 (P_lex_scanner_word Sp.lex_scanner_word F) := by
  intro a s γ K q h
  unfold P_lex_scanner_word at h
  split at h
  · exact body_ok (tab_call (tab_call (tab_nil _) (E_lex_scanner_run p (ent_none _ _))) (E_lex_Key p (ent_none _ _))) rfl ((e_lex_scanner_word p _ _ _ _ _ _).trans h)
  · exact hF _ _ _ _ _ h
abbrev Ty_lex_scanner_sign_L0 : Type 1 := ByteArray → ByteArray → ByteArray → ByteArray → ByteArray → ByteArray → ByteArray → ByteArray → ByteArray → ByteArray → ByteArray → ByteArray → ByteArray → ByteArray → ByteArray → Bool → Int → Int → ByteArray → Int → Int → ByteArray → Int → (γ : Type) → (Ex → Bool → Int → Int → ByteArray → Int → Int → ByteArray → Int → Option γ) → Option γ
def P_lex_scanner_sign_L0 (X : Ty_lex_scanner_sign_L0) (F : Loop3) : Loop3 := fun a s γ K => match a, s with
  | [AVal.ref 0 0, AVal.loc 2 0, AVal.agg [(Dat.str v_0, Own.none), (Dat.str v_1, Own.none), (Dat.str v_2, Own.none), (Dat.str v_3, Own.none), (Dat.str v_4, Own.none), (Dat.str v_5, Own.none), (Dat.str v_6, Own.none), (Dat.str v_7, Own.none), (Dat.str v_8, Own.none), (Dat.str v_9, Own.none), (Dat.str v_10, Own.none), (Dat.str v_11, Own.none), (Dat.str v_12, Own.none), (Dat.str v_13, Own.none), (Dat.str v_14, Own.none)]], ([AVal.dat (Dat.bool v_), AVal.dat (Dat.int IntKind.i64 v__1), AVal.agg [(Dat.int IntKind.i64 v_box0, Own.none), (Dat.str v_box1, Own.none), (Dat.int IntKind.i64 v_box2, Own.none), (Dat.int IntKind.i64 v_box3, Own.none)]], [Box.cells [AVal.dat (Dat.str b0), AVal.dat (Dat.int IntKind.i64 b1)]]) => X v_0 v_1 v_2 v_3 v_4 v_5 v_6 v_7 v_8 v_9 v_10 v_11 v_12 v_13 v_14 v_ v__1 v_box0 v_box1 v_box2 v_box3 b0 b1 γ (fun e x0 x1 x2 x3 x4 x5 x6 x7 => K (e, ([AVal.dat (Dat.bool x0), AVal.dat (Dat.int IntKind.i64 x1), AVal.agg [(Dat.int IntKind.i64 x2, Own.none), (Dat.str x3, Own.none), (Dat.int IntKind.i64 x4, Own.none), (Dat.int IntKind.i64 x5, Own.none)]], [Box.cells [AVal.dat (Dat.str x6), AVal.dat (Dat.int IntKind.i64 x7)]])))
  | a, s => F a s γ K
def T_lex_scanner_sign_L0 (x_strings_HasPrefix : Ty_strings_HasPrefix) : CallK := (addK noneK 22 (P_strings_HasPrefix x_strings_HasPrefix none3))
def L_lex_scanner_sign_L0 (x_strings_HasPrefix : Ty_strings_HasPrefix) : LoopK := noneL
def Sp.B_lex_scanner_sign_L0 (x_lex_scanner_sign_L0 : Ty_lex_scanner_sign_L0) (x_strings_HasPrefix : Ty_strings_HasPrefix) (v_0 : ByteArray) (v_1 : ByteArray) (v_2 : ByteArray) (v_3 : ByteArray) (v_4 : ByteArray) (v_5 : ByteArray) (v_6 : ByteArray) (v_7 : ByteArray) (v_8 : ByteArray) (v_9 : ByteArray) (v_10 : ByteArray) (v_11 : ByteArray) (v_12 : ByteArray) (v_13 : ByteArray) (v_14 : ByteArray) (v_ : Bool) (v__1 : Int) (v_box0 : Int) (v_box1 : ByteArray) (v_box2 : Int) (v_box3 : Int) (b0 : ByteArray) (b1 : Int) (γ : Type) (K : Ex → Bool → Int → Int → ByteArray → Int → Int → ByteArray → Int → Option γ) : Option γ := bif decide (v__1 < 15) then
    bif decide (0 ≤ v__1) && decide (v__1 < 15) && true then
      match [(Dat.str v_0, Own.none), (Dat.str v_1, Own.none), (Dat.str v_2, Own.none), (Dat.str v_3, Own.none), (Dat.str v_4, Own.none), (Dat.str v_5, Own.none), (Dat.str v_6, Own.none), (Dat.str v_7, Own.none), (Dat.str v_8, Own.none), (Dat.str v_9, Own.none), (Dat.str v_10, Own.none), (Dat.str v_11, Own.none), (Dat.str v_12, Own.none), (Dat.str v_13, Own.none), (Dat.str v_14, Own.none)][Int.toNat v__1 * 1]? with
      | some z28 => asStr z28.1 fun (z29 : ByteArray) => bif decide (0 ≤ b1) && decide (b1 ≤ Int.ofNat (ByteArray.size b0)) && decide (Int.ofNat (ByteArray.size b0) ≤ Int.ofNat (ByteArray.size b0)) && true then x_strings_HasPrefix (ByteArray.extract b0 (Int.toNat b1) (Int.toNat (Int.ofNat (ByteArray.size b0)))) z29 γ fun (z30 : Bool) => bif z30 then K Ex.ret true v__1 5 z29 0 b1 b0 (IntKind.wrap IntKind.i64 (b1 + Int.ofNat (ByteArray.size z29))) else x_lex_scanner_sign_L0 v_0 v_1 v_2 v_3 v_4 v_5 v_6 v_7 v_8 v_9 v_10 v_11 v_12 v_13 v_14 v_ (IntKind.wrap IntKind.i64 (v__1 + 1)) v_box0 v_box1 v_box2 v_box3 b0 b1 γ K else none
      | none => none
    else none
  else K (Ex.exit 0) v_ v__1 v_box0 v_box1 v_box2 v_box3 b0 b1
theorem e_lex_scanner_sign_L0 (p : Par) (x_lex_scanner_sign_L0 : Ty_lex_scanner_sign_L0) (x_strings_HasPrefix : Ty_strings_HasPrefix) (v_0 : ByteArray) (v_1 : ByteArray) (v_2 : ByteArray) (v_3 : ByteArray) (v_4 : ByteArray) (v_5 : ByteArray) (v_6 : ByteArray) (v_7 : ByteArray) (v_8 : ByteArray) (v_9 : ByteArray) (v_10 : ByteArray) (v_11 : ByteArray) (v_12 : ByteArray) (v_13 : ByteArray) (v_14 : ByteArray) (v_ : Bool) (v__1 : Int) (v_box0 : Int) (v_box1 : ByteArray) (v_box2 : Int) (v_box3 : Int) (b0 : ByteArray) (b1 : Int) (γ : Type) (K : Ex × Vars → Option γ) : roundK (cfg p) (T_lex_scanner_sign_L0 x_strings_HasPrefix) (L_lex_scanner_sign_L0 x_strings_HasPrefix) 28 0 [AVal.ref 0 0, AVal.loc 2 0, AVal.agg [(Dat.str v_0, Own.none), (Dat.str v_1, Own.none), (Dat.str v_2, Own.none), (Dat.str v_3, Own.none), (Dat.str v_4, Own.none), (Dat.str v_5, Own.none), (Dat.str v_6, Own.none), (Dat.str v_7, Own.none), (Dat.str v_8, Own.none), (Dat.str v_9, Own.none), (Dat.str v_10, Own.none), (Dat.str v_11, Own.none), (Dat.str v_12, Own.none), (Dat.str v_13, Own.none), (Dat.str v_14, Own.none)]] ([AVal.dat (Dat.bool v_), AVal.dat (Dat.int IntKind.i64 v__1), AVal.agg [(Dat.int IntKind.i64 v_box0, Own.none), (Dat.str v_box1, Own.none), (Dat.int IntKind.i64 v_box2, Own.none), (Dat.int IntKind.i64 v_box3, Own.none)]], [Box.cells [AVal.dat (Dat.str b0), AVal.dat (Dat.int IntKind.i64 b1)]]) γ (contL (fun v => P_lex_scanner_sign_L0 x_lex_scanner_sign_L0 noneL3 [AVal.ref 0 0, AVal.loc 2 0, AVal.agg [(Dat.str v_0, Own.none), (Dat.str v_1, Own.none), (Dat.str v_2, Own.none), (Dat.str v_3, Own.none), (Dat.str v_4, Own.none), (Dat.str v_5, Own.none), (Dat.str v_6, Own.none), (Dat.str v_7, Own.none), (Dat.str v_8, Own.none), (Dat.str v_9, Own.none), (Dat.str v_10, Own.none), (Dat.str v_11, Own.none), (Dat.str v_12, Own.none), (Dat.str v_13, Own.none), (Dat.str v_14, Own.none)]] v γ K) K) = Sp.B_lex_scanner_sign_L0 x_lex_scanner_sign_L0 x_strings_HasPrefix v_0 v_1 v_2 v_3 v_4 v_5 v_6 v_7 v_8 v_9 v_10 v_11 v_12 v_13 v_14 v_ v__1 v_box0 v_box1 v_box2 v_box3 b0 b1 γ (fun e x0 x1 x2 x3 x4 x5 x6 x7 => K (e, ([AVal.dat (Dat.bool x0), AVal.dat (Dat.int IntKind.i64 x1), AVal.agg [(Dat.int IntKind.i64 x2, Own.none), (Dat.str x3, Own.none), (Dat.int IntKind.i64 x4, Own.none), (Dat.int IntKind.i64 x5, Own.none)]], [Box.cells [AVal.dat (Dat.str x6), AVal.dat (Dat.int IntKind.i64 x7)]]))) := by kernel_rfl
def Sp.lex_scanner_sign_L0 : Nat → Ty_lex_scanner_sign_L0
  | 0 => fun _ _ _ _ _ _ _ _ _ _ _ _ _ _ _ _ _ _ _ _ _ _ _ _ _ => none
  | n + 1 => Sp.B_lex_scanner_sign_L0 (Sp.lex_scanner_sign_L0 n) Sp.strings_HasPrefix
theorem E0_lex_scanner_sign_L0 (p : Par)   : ∀ n, EntOkL (cfg p) 28 0 (P_lex_scanner_sign_L0 (Sp.lex_scanner_sign_L0  n) noneL3) := entL_rounds (tab_call (tab_nil _) (E_strings_HasPrefix p (ent_none _ _))) (by kernel_rfl) (fun c v γ K => by unfold P_lex_scanner_sign_L0; split <;> rfl) fun n c v γ K q h => by
  unfold P_lex_scanner_sign_L0 at h
  split at h
  · exact (e_lex_scanner_sign_L0 p _ _ _ _ _ _ _ _ _ _ _ _ _ _ _ _ _ _ _ _ _ _ _ _ _ _ _).trans h
  · cases h
theorem E_lex_scanner_sign_L0 (p : Par)   (n : Nat) {F : Loop3} (hF : EntOkL (cfg p) 28 0 F) : EntOkL (cfg p) 28 0 (P_lex_scanner_sign_L0 (Sp.lex_scanner_sign_L0  n) F) := by
  intro c v γ K q h
  unfold P_lex_scanner_sign_L0 at h
  split at h
  · exact E0_lex_scanner_sign_L0 p   n _ _ _ _ _ h
  · exact hF _ _ _ _ _ h
abbrev Ty_lex_scanner_sign : Type 1 := ByteArray → Int → (γ : Type) → (Int → ByteArray → Int → Int → Bool → ByteArray → Int → Option γ) → Option γ
def P_lex_scanner_sign (X : Ty_lex_scanner_sign) (F : Ent3) : Ent3 := fun a s γ K => match a, s with
  | [AVal.ref 0 0], [Box.cells [AVal.dat (Dat.str b0), AVal.dat (Dat.int IntKind.i64 b1)]] => X b0 b1 γ (fun r0 r1 r2 r3 r4 r5 r6 => K ([(AVal.agg [(Dat.int IntKind.i64 r0, Own.none), (Dat.str r1, Own.none), (Dat.int IntKind.i64 r2, Own.none), (Dat.int IntKind.i64 r3, Own.none)], Own.none), (AVal.dat (Dat.bool r4), Own.none)], [Box.cells [AVal.dat (Dat.str r5), AVal.dat (Dat.int IntKind.i64 r6)]]))
  | a, s => F a s γ K
def T_lex_scanner_sign (x_lex_scanner_sign_L0 : Ty_lex_scanner_sign_L0) : CallK := noneK
def L_lex_scanner_sign (x_lex_scanner_sign_L0 : Ty_lex_scanner_sign_L0) : LoopK := (addL noneL 28 0 (P_lex_scanner_sign_L0 x_lex_scanner_sign_L0 noneL3))
def Sp.B_lex_scanner_sign (x_lex_scanner_sign_L0 : Ty_lex_scanner_sign_L0) (b0 : ByteArray) (b1 : Int) (γ : Type) (K : Int → ByteArray → Int → Int → Bool → ByteArray → Int → Option γ) : Option γ := x_lex_scanner_sign_L0 (bs [60, 61]) (bs [62, 61]) (bs [60, 62]) (bs [40]) (bs [41]) (bs [44]) (bs [46]) (bs [42]) (bs [43]) (bs [45]) (bs [47]) (bs [37]) (bs [61]) (bs [60]) (bs [62]) false 0 0 (bs []) 0 0 b0 b1 γ fun (z4 : Ex) (z5 : Bool) (z6 z7 : Int) (z8 : ByteArray) (z9 z10 : Int) (z11 : ByteArray) (z12 : Int) => bif Ex.isExit z4 0 then K 0 (bs []) 0 0 false z11 z12 else bif Ex.isRet z4 then K z7 z8 z9 z10 z5 z11 z12 else none
theorem e_lex_scanner_sign (p : Par) (x_lex_scanner_sign_L0 : Ty_lex_scanner_sign_L0) (b0 : ByteArray) (b1 : Int) (γ : Type) (K : List Ent × Sig → Option γ) : evFK (cfg p) (T_lex_scanner_sign x_lex_scanner_sign_L0) (L_lex_scanner_sign x_lex_scanner_sign_L0) 28 [AVal.ref 0 0] [Box.cells [AVal.dat (Dat.str b0), AVal.dat (Dat.int IntKind.i64 b1)]] γ K = Sp.B_lex_scanner_sign x_lex_scanner_sign_L0 b0 b1 γ (fun r0 r1 r2 r3 r4 r5 r6 => K ([(AVal.agg [(Dat.int IntKind.i64 r0, Own.none), (Dat.str r1, Own.none), (Dat.int IntKind.i64 r2, Own.none), (Dat.int IntKind.i64 r3, Own.none)], Own.none), (AVal.dat (Dat.bool r4), Own.none)], [Box.cells [AVal.dat (Dat.str r5), AVal.dat (Dat.int IntKind.i64 r6)]])) := by kernel_rfl
def Sp.lex_scanner_sign : Ty_lex_scanner_sign := Sp.B_lex_scanner_sign (Sp.lex_scanner_sign_L0 fuel)
theorem E_lex_scanner_sign (p : Par) {F : Ent3} (hF : EntOk (cfg p) 28 F) : EntOk (cfg p) 28 (P_lex_scanner_sign Sp.lex_scanner_sign F) := by
  intro a s γ K q h
  unfold P_lex_scanner_sign at h
  split at h
  · exact body_ok (tab_loop (tab_nil _) (E_lex_scanner_sign_L0 p fuel (entL_none _ _ _))) rfl ((e_lex_scanner_sign p _ _ _ _ _).trans h)
  · exact hF _ _ _ _ _ h
abbrev Ty_lex_scanner_next : Type 1 := ByteArray → Int → (γ : Type) → (Int → ByteArray → Int → Int → Bool → ByteArray → Int → Option γ) → Option γ
def P_lex_scanner_next (X : Ty_lex_scanner_next) (F : Ent3) : Ent3 := fun a s γ K => match a, s with
  | [AVal.ref 0 0], [Box.cells [AVal.dat (Dat.str b0), AVal.dat (Dat.int IntKind.i64 b1)]] => X b0 b1 γ (fun r0 r1 r2 r3 r4 r5 r6 => K ([(AVal.agg [(Dat.int IntKind.i64 r0, Own.none), (Dat.str r1, Own.none), (Dat.int IntKind.i64 r2, Own.none), (Dat.int IntKind.i64 r3, Own.none)], Own.none), (AVal.dat (Dat.bool r4), Own.none)], [Box.cells [AVal.dat (Dat.str r5), AVal.dat (Dat.int IntKind.i64 r6)]]))
  | a, s => F a s γ K
def T_lex_scanner_next (x_lex_scanner_text : Ty_lex_scanner_text) (x_lex_digit : Ty_lex_digit) (x_lex_scanner_number : Ty_lex_scanner_number) (x_lex_letter : Ty_lex_letter) (x_lex_scanner_word : Ty_lex_scanner_word) (x_lex_scanner_sign : Ty_lex_scanner_sign) : CallK := (addK (addK (addK (addK (addK (addK noneK 24 (P_lex_scanner_text x_lex_scanner_text none3)) 25 (P_lex_digit x_lex_digit none3)) 26 (P_lex_scanner_number x_lex_scanner_number none3)) 19 (P_lex_letter x_lex_letter none3)) 27 (P_lex_scanner_word x_lex_scanner_word none3)) 28 (P_lex_scanner_sign x_lex_scanner_sign none3))
def L_lex_scanner_next (x_lex_scanner_text : Ty_lex_scanner_text) (x_lex_digit : Ty_lex_digit) (x_lex_scanner_number : Ty_lex_scanner_number) (x_lex_letter : Ty_lex_letter) (x_lex_scanner_word : Ty_lex_scanner_word) (x_lex_scanner_sign : Ty_lex_scanner_sign) : LoopK := noneL
def Sp.B_lex_scanner_next (x_lex_scanner_text : Ty_lex_scanner_text) (x_lex_digit : Ty_lex_digit) (x_lex_scanner_number : Ty_lex_scanner_number) (x_lex_letter : Ty_lex_letter) (x_lex_scanner_word : Ty_lex_scanner_word) (x_lex_scanner_sign : Ty_lex_scanner_sign) (b0 : ByteArray) (b1 : Int) (γ : Type) (K : Int → ByteArray → Int → Int → Bool → ByteArray → Int → Option γ) : Option γ := byteAt b0 b1 fun (z4 : UInt8) => bif decide (Int.ofNat (BitVec.toFin (UInt8.toBitVec z4)).1 = 39) then x_lex_scanner_text b0 b1 γ fun (z5 : Int) (z6 : ByteArray) (z7 z8 : Int) (z9 : Bool) (z10 : ByteArray) (z11 : Int) => K z5 z6 z7 z8 z9 z10 z11 else x_lex_digit (Int.ofNat (BitVec.toFin (UInt8.toBitVec z4)).1) γ fun (z12 : Bool) => bif z12 then x_lex_scanner_number b0 b1 γ fun (z13 : Int) (z14 : ByteArray) (z15 z16 : Int) (z17 : Bool) (z18 : ByteArray) (z19 : Int) => K z13 z14 z15 z16 z17 z18 z19 else x_lex_letter (Int.ofNat (BitVec.toFin (UInt8.toBitVec z4)).1) γ fun (z20 : Bool) => bif z20 then x_lex_scanner_word b0 b1 γ fun (z21 : Int) (z22 : ByteArray) (z23 z24 : Int) (z25 : Bool) (z26 : ByteArray) (z27 : Int) => K z21 z22 z23 z24 z25 z26 z27 else x_lex_scanner_sign b0 b1 γ fun (z28 : Int) (z29 : ByteArray) (z30 z31 : Int) (z32 : Bool) (z33 : ByteArray) (z34 : Int) => K z28 z29 z30 z31 z32 z33 z34
theorem e_lex_scanner_next (p : Par) (x_lex_scanner_text : Ty_lex_scanner_text) (x_lex_digit : Ty_lex_digit) (x_lex_scanner_number : Ty_lex_scanner_number) (x_lex_letter : Ty_lex_letter) (x_lex_scanner_word : Ty_lex_scanner_word) (x_lex_scanner_sign : Ty_lex_scanner_sign) (b0 : ByteArray) (b1 : Int) (γ : Type) (K : List Ent × Sig → Option γ) : evFK (cfg p) (T_lex_scanner_next x_lex_scanner_text x_lex_digit x_lex_scanner_number x_lex_letter x_lex_scanner_word x_lex_scanner_sign) (L_lex_scanner_next x_lex_scanner_text x_lex_digit x_lex_scanner_number x_lex_letter x_lex_scanner_word x_lex_scanner_sign) 15 [AVal.ref 0 0] [Box.cells [AVal.dat (Dat.str b0), AVal.dat (Dat.int IntKind.i64 b1)]] γ K = Sp.B_lex_scanner_next x_lex_scanner_text x_lex_digit x_lex_scanner_number x_lex_letter x_lex_scanner_word x_lex_scanner_sign b0 b1 γ (fun r0 r1 r2 r3 r4 r5 r6 => K ([(AVal.agg [(Dat.int IntKind.i64 r0, Own.none), (Dat.str r1, Own.none), (Dat.int IntKind.i64 r2, Own.none), (Dat.int IntKind.i64 r3, Own.none)], Own.none), (AVal.dat (Dat.bool r4), Own.none)], [Box.cells [AVal.dat (Dat.str r5), AVal.dat (Dat.int IntKind.i64 r6)]])) := by kernel_rfl
def Sp.lex_scanner_next : Ty_lex_scanner_next := Sp.B_lex_scanner_next Sp.lex_scanner_text Sp.lex_digit Sp.lex_scanner_number Sp.lex_letter Sp.lex_scanner_word Sp.lex_scanner_sign
theorem E_lex_scanner_next (p : Par) {F : Ent3} (hF : EntOk (cfg p) 15 F) : EntOk (cfg p) 15 (P_lex_scanner_next Sp.lex_scanner_next F) := by
  intro a s γ K q h
  unfold P_lex_scanner_next at h
  split at h
  · exact body_ok (tab_call (tab_call (tab_call (tab_call (tab_call (tab_call (tab_nil _) (E_lex_scanner_text p (ent_none _ _))) (E_lex_digit p (ent_none _ _))) (E_lex_scanner_number p (ent_none _ _))) (E_lex_letter p (ent_none _ _))) (E_lex_scanner_word p (ent_none _ _))) (E_lex_scanner_sign p (ent_none _ _))) rfl ((e_lex_scanner_next p _ _ _ _ _ _ _ _ _ _).trans h)
  · exact hF _ _ _ _ _ h
abbrev Ty_lex_All_L0 : Type 1 := ByteArray → List (List Dat) → Int → Int → List (List Dat) → ByteArray → Int → (γ : Type) → (Ex → List (List Dat) → Int → Int → List (List Dat) → ByteArray → Int → Option γ) → Option γ
def P_lex_All_L0 (X : Ty_lex_All_L0) (F : Loop3) : Loop3 := fun a s γ K => match a, s with
  | [AVal.dat (Dat.str v_text), AVal.ref 0 0], ([AVal.dat (Dat.sl v_), AVal.dat (Dat.int IntKind.i64 v__1), AVal.dat (Dat.int IntKind.i64 v__2), AVal.dat (Dat.sl v_out)], [Box.cells [AVal.dat (Dat.str b0), AVal.dat (Dat.int IntKind.i64 b1)]]) => X v_text v_ v__1 v__2 v_out b0 b1 γ (fun e x0 x1 x2 x3 x4 x5 => K (e, ([AVal.dat (Dat.sl x0), AVal.dat (Dat.int IntKind.i64 x1), AVal.dat (Dat.int IntKind.i64 x2), AVal.dat (Dat.sl x3)], [Box.cells [AVal.dat (Dat.str x4), AVal.dat (Dat.int IntKind.i64 x5)]])))
  | a, s => F a s γ K
def T_lex_All_L0 (x_lex_scanner_left : Ty_lex_scanner_left) (x_lex_scanner_next : Ty_lex_scanner_next) (x_lex_scanner_skip : Ty_lex_scanner_skip) : CallK := (addK (addK (addK noneK 14 (P_lex_scanner_left x_lex_scanner_left none3)) 15 (P_lex_scanner_next x_lex_scanner_next none3)) 13 (P_lex_scanner_skip x_lex_scanner_skip none3))
def L_lex_All_L0 (x_lex_scanner_left : Ty_lex_scanner_left) (x_lex_scanner_next : Ty_lex_scanner_next) (x_lex_scanner_skip : Ty_lex_scanner_skip) : LoopK := noneL
def Sp.B_lex_All_L0 (x_lex_All_L0 : Ty_lex_All_L0) (x_lex_scanner_left : Ty_lex_scanner_left) (x_lex_scanner_next : Ty_lex_scanner_next) (x_lex_scanner_skip : Ty_lex_scanner_skip) (v_text : ByteArray) (v_ : List (List Dat)) (v__1 : Int) (v__2 : Int) (v_out : List (List Dat)) (b0 : ByteArray) (b1 : Int) (γ : Type) (K : Ex → List (List Dat) → Int → Int → List (List Dat) → ByteArray → Int → Option γ) : Option γ := bif sized v_ 4 then bif sized v_out 4 then x_lex_scanner_left b0 b1 γ fun (z9 : Bool) (z10 : ByteArray) (z11 : Int) => bif z9 then x_lex_scanner_next z10 z11 γ fun (z12 : Int) (z13 : ByteArray) (z14 z15 : Int) (z16 : Bool) (z17 : ByteArray) (z18 : Int) => bif !z16 then K Ex.ret [] z11 90 v_out z17 z18 else bif decide (4096 ≤ Int.ofNat (List.length v_out)) then K Ex.ret [] z11 3 v_out z17 z18 else bif sized v_out 4 && true && true && decide ((List.length v_out + 1) * 41 ≤ 70368744177664) && true then x_lex_scanner_skip z17 z18 γ fun (z19 : ByteArray) (z20 : Int) => x_lex_All_L0 v_text v_ v__1 v__2 (v_out ++ [[Dat.int IntKind.i64 z12, Dat.str z13, Dat.int IntKind.i64 z14, Dat.int IntKind.i64 z15]]) z19 z20 γ K else none else K (Ex.exit 0) v_ v__1 v__2 v_out z10 z11 else none else none
theorem e_lex_All_L0 (p : Par) (x_lex_All_L0 : Ty_lex_All_L0) (x_lex_scanner_left : Ty_lex_scanner_left) (x_lex_scanner_next : Ty_lex_scanner_next) (x_lex_scanner_skip : Ty_lex_scanner_skip) (v_text : ByteArray) (v_ : List (List Dat)) (v__1 : Int) (v__2 : Int) (v_out : List (List Dat)) (b0 : ByteArray) (b1 : Int) (γ : Type) (K : Ex × Vars → Option γ) : roundK (cfg p) (T_lex_All_L0 x_lex_scanner_left x_lex_scanner_next x_lex_scanner_skip) (L_lex_All_L0 x_lex_scanner_left x_lex_scanner_next x_lex_scanner_skip) 6 0 [AVal.dat (Dat.str v_text), AVal.ref 0 0] ([AVal.dat (Dat.sl v_), AVal.dat (Dat.int IntKind.i64 v__1), AVal.dat (Dat.int IntKind.i64 v__2), AVal.dat (Dat.sl v_out)], [Box.cells [AVal.dat (Dat.str b0), AVal.dat (Dat.int IntKind.i64 b1)]]) γ (contL (fun v => P_lex_All_L0 x_lex_All_L0 noneL3 [AVal.dat (Dat.str v_text), AVal.ref 0 0] v γ K) K) = Sp.B_lex_All_L0 x_lex_All_L0 x_lex_scanner_left x_lex_scanner_next x_lex_scanner_skip v_text v_ v__1 v__2 v_out b0 b1 γ (fun e x0 x1 x2 x3 x4 x5 => K (e, ([AVal.dat (Dat.sl x0), AVal.dat (Dat.int IntKind.i64 x1), AVal.dat (Dat.int IntKind.i64 x2), AVal.dat (Dat.sl x3)], [Box.cells [AVal.dat (Dat.str x4), AVal.dat (Dat.int IntKind.i64 x5)]]))) := by kernel_rfl
def Sp.lex_All_L0 : Nat → Ty_lex_All_L0
  | 0 => fun _ _ _ _ _ _ _ _ _ => none
  | n + 1 => Sp.B_lex_All_L0 (Sp.lex_All_L0 n) Sp.lex_scanner_left Sp.lex_scanner_next Sp.lex_scanner_skip
theorem E0_lex_All_L0 (p : Par)   : ∀ n, EntOkL (cfg p) 6 0 (P_lex_All_L0 (Sp.lex_All_L0  n) noneL3) := entL_rounds (tab_call (tab_call (tab_call (tab_nil _) (E_lex_scanner_left p (ent_none _ _))) (E_lex_scanner_next p (ent_none _ _))) (E_lex_scanner_skip p (ent_none _ _))) (by kernel_rfl) (fun c v γ K => by unfold P_lex_All_L0; split <;> rfl) fun n c v γ K q h => by
  unfold P_lex_All_L0 at h
  split at h
  · exact (e_lex_All_L0 p _ _ _ _ _ _ _ _ _ _ _ _ _).trans h
  · cases h
theorem E_lex_All_L0 (p : Par)   (n : Nat) {F : Loop3} (hF : EntOkL (cfg p) 6 0 F) : EntOkL (cfg p) 6 0 (P_lex_All_L0 (Sp.lex_All_L0  n) F) := by
  intro c v γ K q h
  unfold P_lex_All_L0 at h
  split at h
  · exact E0_lex_All_L0 p   n _ _ _ _ _ h
  · exact hF _ _ _ _ _ h
abbrev Ty_lex_All : Type 1 := ByteArray → (γ : Type) → (List (List Dat) → Int → Int → Option γ) → Option γ
def P_lex_All (X : Ty_lex_All) (F : Ent3) : Ent3 := fun a s γ K => match a, s with
  | [AVal.dat (Dat.str v_text)], [] => X v_text γ (fun r0 r1 r2 => K ([(AVal.dat (Dat.sl r0), Own.none), (AVal.dat (Dat.int IntKind.i64 r1), Own.none), (AVal.dat (Dat.int IntKind.i64 r2), Own.none)], []))
  | a, s => F a s γ K
def T_lex_All (x_lex_scanner_skip : Ty_lex_scanner_skip) (x_lex_All_L0 : Ty_lex_All_L0) : CallK := (addK noneK 13 (P_lex_scanner_skip x_lex_scanner_skip none3))
def L_lex_All (x_lex_scanner_skip : Ty_lex_scanner_skip) (x_lex_All_L0 : Ty_lex_All_L0) : LoopK := (addL noneL 6 0 (P_lex_All_L0 x_lex_All_L0 noneL3))
def Sp.B_lex_All (x_lex_scanner_skip : Ty_lex_scanner_skip) (x_lex_All_L0 : Ty_lex_All_L0) (v_text : ByteArray) (γ : Type) (K : List (List Dat) → Int → Int → Option γ) : Option γ := bif decide (16384 < Int.ofNat (ByteArray.size v_text)) then K [] 0 3 else x_lex_scanner_skip v_text 0 γ fun (z3 : ByteArray) (z4 : Int) => x_lex_All_L0 v_text [] 0 0 [] z3 z4 γ fun (z5 : Ex) (z6 : List (List Dat)) (z7 z8 : Int) (z9 : List (List Dat)) (z10 : ByteArray) (z11 : Int) => bif sized z6 4 then bif sized z9 4 then bif Ex.isExit z5 0 then bif decide (4096 ≤ Int.ofNat (List.length z9)) then K [] (Int.ofNat (ByteArray.size v_text)) 3 else bif sized z9 4 && true && true && decide ((List.length z9 + 1) * 41 ≤ 70368744177664) && true then K (z9 ++ [[Dat.int IntKind.i64 6, Dat.str (bs []), Dat.int IntKind.i64 0, Dat.int IntKind.i64 (Int.ofNat (ByteArray.size v_text))]]) (Int.ofNat (ByteArray.size v_text)) 0 else none else bif Ex.isRet z5 then K z6 z7 z8 else none else none else none
theorem e_lex_All (p : Par) (x_lex_scanner_skip : Ty_lex_scanner_skip) (x_lex_All_L0 : Ty_lex_All_L0) (v_text : ByteArray) (γ : Type) (K : List Ent × Sig → Option γ) : evFK (cfg p) (T_lex_All x_lex_scanner_skip x_lex_All_L0) (L_lex_All x_lex_scanner_skip x_lex_All_L0) 6 [AVal.dat (Dat.str v_text)] [] γ K = Sp.B_lex_All x_lex_scanner_skip x_lex_All_L0 v_text γ (fun r0 r1 r2 => K ([(AVal.dat (Dat.sl r0), Own.none), (AVal.dat (Dat.int IntKind.i64 r1), Own.none), (AVal.dat (Dat.int IntKind.i64 r2), Own.none)], [])) := by kernel_rfl
def Sp.lex_All : Ty_lex_All := Sp.B_lex_All Sp.lex_scanner_skip (Sp.lex_All_L0 fuel)
theorem E_lex_All (p : Par) {F : Ent3} (hF : EntOk (cfg p) 6 F) : EntOk (cfg p) 6 (P_lex_All Sp.lex_All F) := by
  intro a s γ K q h
  unfold P_lex_All at h
  split at h
  · exact body_ok (tab_loop (tab_call (tab_nil _) (E_lex_scanner_skip p (ent_none _ _))) (E_lex_All_L0 p fuel (entL_none _ _ _))) rfl ((e_lex_All p _ _ _ _ _).trans h)
  · exact hF _ _ _ _ _ h
abbrev Ty_lex_Name : Type 1 := ByteArray → (γ : Type) → (Bool → Option γ) → Option γ
def P_lex_Name (X : Ty_lex_Name) (F : Ent3) : Ent3 := fun a s γ K => match a, s with
  | [AVal.dat (Dat.str v_s)], [] => X v_s γ (fun r0 => K ([(AVal.dat (Dat.bool r0), Own.none)], []))
  | a, s => F a s γ K
def T_lex_Name (x_lex_letter : Ty_lex_letter) (x_lex_scanner_run : Ty_lex_scanner_run) (x_lex_Key : Ty_lex_Key) : CallK := (addK (addK (addK noneK 19 (P_lex_letter x_lex_letter none3)) 20 (P_lex_scanner_run x_lex_scanner_run none3)) 10 (P_lex_Key x_lex_Key none3))
def L_lex_Name (x_lex_letter : Ty_lex_letter) (x_lex_scanner_run : Ty_lex_scanner_run) (x_lex_Key : Ty_lex_Key) : LoopK := noneL
def Sp.B_lex_Name (x_lex_letter : Ty_lex_letter) (x_lex_scanner_run : Ty_lex_scanner_run) (x_lex_Key : Ty_lex_Key) (v_s : ByteArray) (γ : Type) (K : Bool → Option γ) : Option γ := bif decide (v_s = bs []) then K false else byteAt v_s 0 fun (z3 : UInt8) => x_lex_letter (Int.ofNat (BitVec.toFin (UInt8.toBitVec z3)).1) γ fun (z4 : Bool) => bif !z4 then K false else x_lex_scanner_run v_s 0 γ fun (z5 z6 : ByteArray) (z7 : Int) => bif decide (z5 = v_s) then bif decide (Int.ofNat (ByteArray.size v_s) ≤ 24) then x_lex_Key v_s γ fun (z8 : Bool) => K !z8 else K false else K false
theorem e_lex_Name (p : Par) (x_lex_letter : Ty_lex_letter) (x_lex_scanner_run : Ty_lex_scanner_run) (x_lex_Key : Ty_lex_Key) (v_s : ByteArray) (γ : Type) (K : List Ent × Sig → Option γ) : evFK (cfg p) (T_lex_Name x_lex_letter x_lex_scanner_run x_lex_Key) (L_lex_Name x_lex_letter x_lex_scanner_run x_lex_Key) 11 [AVal.dat (Dat.str v_s)] [] γ K = Sp.B_lex_Name x_lex_letter x_lex_scanner_run x_lex_Key v_s γ (fun r0 => K ([(AVal.dat (Dat.bool r0), Own.none)], [])) := by kernel_rfl
def Sp.lex_Name : Ty_lex_Name := Sp.B_lex_Name Sp.lex_letter Sp.lex_scanner_run Sp.lex_Key
theorem E_lex_Name (p : Par) {F : Ent3} (hF : EntOk (cfg p) 11 F) : EntOk (cfg p) 11 (P_lex_Name Sp.lex_Name F) := by
  intro a s γ K q h
  unfold P_lex_Name at h
  split at h
  · exact body_ok (tab_call (tab_call (tab_call (tab_nil _) (E_lex_letter p (ent_none _ _))) (E_lex_scanner_run p (ent_none _ _))) (E_lex_Key p (ent_none _ _))) rfl ((e_lex_Name p _ _ _ _ _ _).trans h)
  · exact hF _ _ _ _ _ h
abbrev Ty_lex_Show_L0 : Type 1 := List (List Dat) → Int → List (List Dat) → Int → (γ : Type) → (Ex → List (List Dat) → Int → Option γ) → Option γ
def P_lex_Show_L0 (X : Ty_lex_Show_L0) (F : Loop3) : Loop3 := fun a s γ K => match a, s with
  | [AVal.dat (Dat.sl v_), AVal.dat (Dat.int IntKind.i64 v__1)], ([AVal.dat (Dat.sl v_out), AVal.dat (Dat.int IntKind.i64 v__2)], []) => X v_ v__1 v_out v__2 γ (fun e x0 x1 => K (e, ([AVal.dat (Dat.sl x0), AVal.dat (Dat.int IntKind.i64 x1)], [])))
  | a, s => F a s γ K
def T_lex_Show_L0 (x_strings_ReplaceAll : Ty_strings_ReplaceAll) : CallK := (addK noneK 16 (P_strings_ReplaceAll x_strings_ReplaceAll none3))
def L_lex_Show_L0 (x_strings_ReplaceAll : Ty_strings_ReplaceAll) : LoopK := noneL
def Sp.B_lex_Show_L0 (x_lex_Show_L0 : Ty_lex_Show_L0) (x_strings_ReplaceAll : Ty_strings_ReplaceAll) (v_ : List (List Dat)) (v__1 : Int) (v_out : List (List Dat)) (v__2 : Int) (γ : Type) (K : Ex → List (List Dat) → Int → Option γ) : Option γ := bif sized v_out 1 then bif decide (v__2 < v__1) then elemAt v_ v__2 fun (z6 : List Dat) => bif List.length z6 == 4 then cellAt z6 0 fun (z7 : Dat) => Aev.asInt IntKind.i64 z7 fun (z8 : Int) => cellAt z6 1 fun (z9 : Dat) => asStr z9 fun (z10 : ByteArray) => cellAt z6 2 fun (z11 : Dat) => Aev.asInt IntKind.i64 z11 fun (z12 : Int) => cellAt z6 3 fun (z13 : Dat) => Aev.asInt IntKind.i64 z13 fun (z14 : Int) => bif decide (z8 = 4) then x_strings_ReplaceAll z10 (bs [39]) (bs [39, 39]) γ fun (z15 : ByteArray) => bif decide (1 + ByteArray.size z15 ≤ 1152921504606846976) then bif decide (ByteArray.size (bs [39] ++ z15) + 1 ≤ 1152921504606846976) then bif sized v_out 1 && true && true && decide ((List.length v_out + 1) * 17 ≤ 70368744177664) && true then x_lex_Show_L0 v_ v__1 (v_out ++ [[Dat.str (bs [39] ++ z15 ++ bs [39])]]) (IntKind.wrap IntKind.i64 (v__2 + 1)) γ K else none else none else none else bif sized v_out 1 && true && true && decide ((List.length v_out + 1) * 17 ≤ 70368744177664) && true then x_lex_Show_L0 v_ v__1 (v_out ++ [[Dat.str z10]]) (IntKind.wrap IntKind.i64 (v__2 + 1)) γ K else none else none else K (Ex.exit 0) v_out v__2 else none
theorem e_lex_Show_L0 (p : Par) (x_lex_Show_L0 : Ty_lex_Show_L0) (x_strings_ReplaceAll : Ty_strings_ReplaceAll) (v_ : List (List Dat)) (v__1 : Int) (v_out : List (List Dat)) (v__2 : Int) (γ : Type) (K : Ex × Vars → Option γ) : roundK (cfg p) (T_lex_Show_L0 x_strings_ReplaceAll) (L_lex_Show_L0 x_strings_ReplaceAll) 7 0 [AVal.dat (Dat.sl v_), AVal.dat (Dat.int IntKind.i64 v__1)] ([AVal.dat (Dat.sl v_out), AVal.dat (Dat.int IntKind.i64 v__2)], []) γ (contL (fun v => P_lex_Show_L0 x_lex_Show_L0 noneL3 [AVal.dat (Dat.sl v_), AVal.dat (Dat.int IntKind.i64 v__1)] v γ K) K) = Sp.B_lex_Show_L0 x_lex_Show_L0 x_strings_ReplaceAll v_ v__1 v_out v__2 γ (fun e x0 x1 => K (e, ([AVal.dat (Dat.sl x0), AVal.dat (Dat.int IntKind.i64 x1)], []))) := by kernel_rfl
def Sp.lex_Show_L0 : Nat → Ty_lex_Show_L0
  | 0 => fun _ _ _ _ _ _ => none
  | n + 1 => Sp.B_lex_Show_L0 (Sp.lex_Show_L0 n) Sp.strings_ReplaceAll
theorem E0_lex_Show_L0 (p : Par)   : ∀ n, EntOkL (cfg p) 7 0 (P_lex_Show_L0 (Sp.lex_Show_L0  n) noneL3) := entL_rounds (tab_call (tab_nil _) (E_strings_ReplaceAll p (ent_none _ _))) (by kernel_rfl) (fun c v γ K => by unfold P_lex_Show_L0; split <;> rfl) fun n c v γ K q h => by
  unfold P_lex_Show_L0 at h
  split at h
  · exact (e_lex_Show_L0 p _ _ _ _ _ _ _ _).trans h
  · cases h
theorem E_lex_Show_L0 (p : Par)   (n : Nat) {F : Loop3} (hF : EntOkL (cfg p) 7 0 F) : EntOkL (cfg p) 7 0 (P_lex_Show_L0 (Sp.lex_Show_L0  n) F) := by
  intro c v γ K q h
  unfold P_lex_Show_L0 at h
  split at h
  · exact E0_lex_Show_L0 p   n _ _ _ _ _ h
  · exact hF _ _ _ _ _ h
abbrev Ty_lex_Show : Type 1 := List (List Dat) → (γ : Type) → (ByteArray → Option γ) → Option γ
def P_lex_Show (X : Ty_lex_Show) (F : Ent3) : Ent3 := fun a s γ K => match a, s with
  | [AVal.dat (Dat.sl v_l)], [] => X v_l γ (fun r0 => K ([(AVal.dat (Dat.str r0), Own.none)], []))
  | a, s => F a s γ K
def T_lex_Show (x_lex_Show_L0 : Ty_lex_Show_L0) (x_strings_Join : Ty_strings_Join) : CallK := (addK noneK 17 (P_strings_Join x_strings_Join none3))
def L_lex_Show (x_lex_Show_L0 : Ty_lex_Show_L0) (x_strings_Join : Ty_strings_Join) : LoopK := (addL noneL 7 0 (P_lex_Show_L0 x_lex_Show_L0 noneL3))
def Sp.B_lex_Show (x_lex_Show_L0 : Ty_lex_Show_L0) (x_strings_Join : Ty_strings_Join) (v_l : List (List Dat)) (γ : Type) (K : ByteArray → Option γ) : Option γ := x_lex_Show_L0 v_l (Int.ofNat (List.length v_l)) [] 0 γ fun (z3 : Ex) (z4 : List (List Dat)) (z5 : Int) => bif sized z4 1 then bif Ex.isExit z3 0 then x_strings_Join z4 (bs [32]) γ fun (z6 : ByteArray) => K z6 else bif Ex.isRet z3 then none else none else none
theorem e_lex_Show (p : Par) (x_lex_Show_L0 : Ty_lex_Show_L0) (x_strings_Join : Ty_strings_Join) (v_l : List (List Dat)) (γ : Type) (K : List Ent × Sig → Option γ) : evFK (cfg p) (T_lex_Show x_lex_Show_L0 x_strings_Join) (L_lex_Show x_lex_Show_L0 x_strings_Join) 7 [AVal.dat (Dat.sl v_l)] [] γ K = Sp.B_lex_Show x_lex_Show_L0 x_strings_Join v_l γ (fun r0 => K ([(AVal.dat (Dat.str r0), Own.none)], [])) := by kernel_rfl
def Sp.lex_Show : Ty_lex_Show := Sp.B_lex_Show (Sp.lex_Show_L0 fuel) Sp.strings_Join
theorem E_lex_Show (p : Par) {F : Ent3} (hF : EntOk (cfg p) 7 F) : EntOk (cfg p) 7 (P_lex_Show Sp.lex_Show F) := by
  intro a s γ K q h
  unfold P_lex_Show at h
  split at h
  · exact body_ok (tab_loop (tab_call (tab_nil _) (E_strings_Join p (ent_none _ _))) (E_lex_Show_L0 p fuel (entL_none _ _ _))) rfl ((e_lex_Show p _ _ _ _ _).trans h)
  · exact hF _ _ _ _ _ h
abbrev Ty_law09_lives : Type 1 := (γ : Type) → (Bool → Option γ) → Option γ
def P_law09_lives (X : Ty_law09_lives) (F : Ent3) : Ent3 := fun a s γ K => match a, s with
  | [], [] => X  γ (fun r0 => K ([(AVal.dat (Dat.bool r0), Own.none)], []))
  | a, s => F a s γ K
def T_law09_lives (x_lex_All : Ty_lex_All) (x_lex_Key : Ty_lex_Key) (x_lex_Name : Ty_lex_Name) (x_lex_Keys : Ty_lex_Keys) (x_lex_Show : Ty_lex_Show) : CallK := (addK (addK (addK (addK (addK noneK 6 (P_lex_All x_lex_All none3)) 10 (P_lex_Key x_lex_Key none3)) 11 (P_lex_Name x_lex_Name none3)) 12 (P_lex_Keys x_lex_Keys none3)) 7 (P_lex_Show x_lex_Show none3))
def L_law09_lives (x_lex_All : Ty_lex_All) (x_lex_Key : Ty_lex_Key) (x_lex_Name : Ty_lex_Name) (x_lex_Keys : Ty_lex_Keys) (x_lex_Show : Ty_lex_Show) : LoopK := noneL
def Sp.B_law09_lives (x_lex_All : Ty_lex_All) (x_lex_Key : Ty_lex_Key) (x_lex_Name : Ty_lex_Name) (x_lex_Keys : Ty_lex_Keys) (x_lex_Show : Ty_lex_Show)  (γ : Type) (K : Bool → Option γ) : Option γ := x_lex_All (bs [83, 69, 76, 69, 67, 84, 32, 97, 60, 61, 49, 50, 32, 45, 45, 32, 98, 10, 39, 105, 116, 39, 39, 115, 39]) γ fun (z2 : List (List Dat)) (z3 z4 : Int) => x_lex_All (bs [97, 32, 63]) γ fun (z5 : List (List Dat)) (z6 z7 : Int) => bif decide (z4 = 0) then bif decide (z3 = 25) then bif decide (Int.ofNat (List.length z2) = 6) then elemAt z2 0 fun (z8 : List Dat) => bif List.length z8 == 4 then cellAt z8 0 fun (z9 : Dat) => Aev.asInt IntKind.i64 z9 fun (z10 : Int) => cellAt z8 1 fun (z11 : Dat) => asStr z11 fun (z12 : ByteArray) => cellAt z8 2 fun (z13 : Dat) => Aev.asInt IntKind.i64 z13 fun (z14 : Int) => cellAt z8 3 fun (z15 : Dat) => Aev.asInt IntKind.i64 z15 fun (z16 : Int) => bif decide (z10 = 2) && (decide (z12 = bs [83, 69, 76, 69, 67, 84]) && (decide (z14 = 0) && (decide (z16 = 0) && true))) then elemAt z2 1 fun (z17 : List Dat) => bif List.length z17 == 4 then cellAt z17 0 fun (z18 : Dat) => Aev.asInt IntKind.i64 z18 fun (z19 : Int) => cellAt z17 1 fun (z20 : Dat) => asStr z20 fun (z21 : ByteArray) => cellAt z17 2 fun (z22 : Dat) => Aev.asInt IntKind.i64 z22 fun (z23 : Int) => cellAt z17 3 fun (z24 : Dat) => Aev.asInt IntKind.i64 z24 fun (z25 : Int) => bif decide (z19 = 1) && (decide (z21 = bs [97]) && (decide (z23 = 0) && (decide (z25 = 7) && true))) then elemAt z2 2 fun (z26 : List Dat) => bif List.length z26 == 4 then cellAt (List.drop 1 z26) 0 fun (z27 : Dat) => asStr z27 fun (z28 : ByteArray) => bif decide (z28 = bs [60, 61]) then elemAt z2 3 fun (z29 : List Dat) => bif List.length z29 == 4 then cellAt (List.drop 2 z29) 0 fun (z30 : Dat) => Aev.asInt IntKind.i64 z30 fun (z31 : Int) => bif decide (z31 = 12) then elemAt z2 4 fun (z32 : List Dat) => bif List.length z32 == 4 then cellAt z32 0 fun (z33 : Dat) => Aev.asInt IntKind.i64 z33 fun (z34 : Int) => cellAt z32 1 fun (z35 : Dat) => asStr z35 fun (z36 : ByteArray) => cellAt z32 2 fun (z37 : Dat) => Aev.asInt IntKind.i64 z37 fun (z38 : Int) => cellAt z32 3 fun (z39 : Dat) => Aev.asInt IntKind.i64 z39 fun (z40 : Int) => bif decide (z34 = 4) && (decide (z36 = bs [105, 116, 39, 115]) && (decide (z38 = 0) && (decide (z40 = 18) && true))) then elemAt z2 5 fun (z41 : List Dat) => bif List.length z41 == 4 then cellAt (List.drop 0 z41) 0 fun (z42 : Dat) => Aev.asInt IntKind.i64 z42 fun (z43 : Int) => bif decide (z43 = 6) then bif decide (z7 = 90) then bif decide (z6 = 2) then x_lex_Key (bs [66, 89]) γ fun (z44 : Bool) => bif z44 then x_lex_Key (bs [98, 121]) γ fun (z45 : Bool) => bif !z45 then x_lex_Name (bs [98, 121]) γ fun (z46 : Bool) => bif z46 then x_lex_Name (bs [66, 89]) γ fun (z47 : Bool) => bif !z47 then x_lex_Keys γ fun (z48 : List (List Dat)) => bif decide (Int.ofNat (List.length z48) = 28) then x_lex_Show z2 γ fun (z49 : ByteArray) => K (decide (z49 = bs [83, 69, 76, 69, 67, 84, 32, 97, 32, 60, 61, 32, 49, 50, 32, 39, 105, 116, 39, 39, 115, 39, 32])) else K false else K false else K false else K false else K false else K false else K false else K false else none else K false else none else K false else none else K false else none else K false else none else K false else none else K false else K false else K false
theorem e_law09_lives (p : Par) (x_lex_All : Ty_lex_All) (x_lex_Key : Ty_lex_Key) (x_lex_Name : Ty_lex_Name) (x_lex_Keys : Ty_lex_Keys) (x_lex_Show : Ty_lex_Show)  (γ : Type) (K : List Ent × Sig → Option γ) : evFK (cfg p) (T_law09_lives x_lex_All x_lex_Key x_lex_Name x_lex_Keys x_lex_Show) (L_law09_lives x_lex_All x_lex_Key x_lex_Name x_lex_Keys x_lex_Show) 5 [] [] γ K = Sp.B_law09_lives x_lex_All x_lex_Key x_lex_Name x_lex_Keys x_lex_Show  γ (fun r0 => K ([(AVal.dat (Dat.bool r0), Own.none)], [])) := by kernel_rfl
def Sp.law09_lives : Ty_law09_lives := Sp.B_law09_lives Sp.lex_All Sp.lex_Key Sp.lex_Name Sp.lex_Keys Sp.lex_Show
theorem E_law09_lives (p : Par) {F : Ent3} (hF : EntOk (cfg p) 5 F) : EntOk (cfg p) 5 (P_law09_lives Sp.law09_lives F) := by
  intro a s γ K q h
  unfold P_law09_lives at h
  split at h
  · exact body_ok (tab_call (tab_call (tab_call (tab_call (tab_call (tab_nil _) (E_lex_All p (ent_none _ _))) (E_lex_Key p (ent_none _ _))) (E_lex_Name p (ent_none _ _))) (E_lex_Keys p (ent_none _ _))) (E_lex_Show p (ent_none _ _))) rfl ((e_law09_lives p _ _ _ _ _ _ _ ).trans h)
  · exact hF _ _ _ _ _ h
abbrev Ty_ref09_Show_L2 : Type 1 := List (List Dat) → Int → List (List Dat) → Int → (γ : Type) → (Ex → List (List Dat) → Int → Option γ) → Option γ
def P_ref09_Show_L2 (X : Ty_ref09_Show_L2) (F : Loop3) : Loop3 := fun a s γ K => match a, s with
  | [AVal.dat (Dat.sl v_l), AVal.dat (Dat.int IntKind.i64 v_i)], ([AVal.dat (Dat.sl v_out), AVal.dat (Dat.int IntKind.i64 v_k)], []) => X v_l v_i v_out v_k γ (fun e x0 x1 => K (e, ([AVal.dat (Dat.sl x0), AVal.dat (Dat.int IntKind.i64 x1)], [])))
  | a, s => F a s γ K
def T_ref09_Show_L2  : CallK := noneK
def L_ref09_Show_L2  : LoopK := noneL
def Sp.B_ref09_Show_L2 (x_ref09_Show_L2 : Ty_ref09_Show_L2)  (v_l : List (List Dat)) (v_i : Int) (v_out : List (List Dat)) (v_k : Int) (γ : Type) (K : Ex → List (List Dat) → Int → Option γ) : Option γ := bif sized v_out 1 then elemAt v_l v_i fun (z6 : List Dat) => bif List.length z6 == 4 then cellAt (List.drop 1 z6) 0 fun (z7 : Dat) => asStr z7 fun (z8 : ByteArray) => bif decide (v_k < Int.ofNat (ByteArray.size z8)) then elemAt v_l v_i fun (z9 : List Dat) => bif List.length z9 == 4 then cellAt (List.drop 1 z9) 0 fun (z10 : Dat) => asStr z10 fun (z11 : ByteArray) => byteAt z11 v_k fun (z12 : UInt8) => bif sized v_out 1 && true && true && decide ((List.length v_out + 1) * 2 ≤ 70368744177664) && true then elemAt v_l v_i fun (z13 : List Dat) => bif List.length z13 == 4 then cellAt (List.drop 1 z13) 0 fun (z14 : Dat) => asStr z14 fun (z15 : ByteArray) => byteAt z15 v_k fun (z16 : UInt8) => bif decide (Int.ofNat (BitVec.toFin (UInt8.toBitVec z16)).1 = 39) then bif sized (v_out ++ [[Dat.int IntKind.u8 (Int.ofNat (BitVec.toFin (UInt8.toBitVec z12)).1)]]) 1 && true && true && decide ((List.length (v_out ++ [[Dat.int IntKind.u8 (Int.ofNat (BitVec.toFin (UInt8.toBitVec z12)).1)]]) + 1) * 2 ≤ 70368744177664) && true then x_ref09_Show_L2 v_l v_i (v_out ++ [[Dat.int IntKind.u8 (Int.ofNat (BitVec.toFin (UInt8.toBitVec z12)).1)]] ++ [[Dat.int IntKind.u8 39]]) (IntKind.wrap IntKind.i64 (v_k + 1)) γ K else none else x_ref09_Show_L2 v_l v_i (v_out ++ [[Dat.int IntKind.u8 (Int.ofNat (BitVec.toFin (UInt8.toBitVec z12)).1)]]) (IntKind.wrap IntKind.i64 (v_k + 1)) γ K else none else none else none else K (Ex.exit 2) v_out v_k else none else none
theorem e_ref09_Show_L2 (p : Par) (x_ref09_Show_L2 : Ty_ref09_Show_L2)  (v_l : List (List Dat)) (v_i : Int) (v_out : List (List Dat)) (v_k : Int) (γ : Type) (K : Ex × Vars → Option γ) : roundK (cfg p) (T_ref09_Show_L2 ) (L_ref09_Show_L2 ) 8 2 [AVal.dat (Dat.sl v_l), AVal.dat (Dat.int IntKind.i64 v_i)] ([AVal.dat (Dat.sl v_out), AVal.dat (Dat.int IntKind.i64 v_k)], []) γ (contL (fun v => P_ref09_Show_L2 x_ref09_Show_L2 noneL3 [AVal.dat (Dat.sl v_l), AVal.dat (Dat.int IntKind.i64 v_i)] v γ K) K) = Sp.B_ref09_Show_L2 x_ref09_Show_L2  v_l v_i v_out v_k γ (fun e x0 x1 => K (e, ([AVal.dat (Dat.sl x0), AVal.dat (Dat.int IntKind.i64 x1)], []))) := by kernel_rfl
def Sp.ref09_Show_L2 : Nat → Ty_ref09_Show_L2
  | 0 => fun _ _ _ _ _ _ => none
  | n + 1 => Sp.B_ref09_Show_L2 (Sp.ref09_Show_L2 n) 
theorem E0_ref09_Show_L2 (p : Par)   : ∀ n, EntOkL (cfg p) 8 2 (P_ref09_Show_L2 (Sp.ref09_Show_L2  n) noneL3) := entL_rounds (tab_nil _) (by kernel_rfl) (fun c v γ K => by unfold P_ref09_Show_L2; split <;> rfl) fun n c v γ K q h => by
  unfold P_ref09_Show_L2 at h
  split at h
  · exact (e_ref09_Show_L2 p _  _ _ _ _ _ _).trans h
  · cases h
theorem E_ref09_Show_L2 (p : Par)   (n : Nat) {F : Loop3} (hF : EntOkL (cfg p) 8 2 F) : EntOkL (cfg p) 8 2 (P_ref09_Show_L2 (Sp.ref09_Show_L2  n) F) := by
  intro c v γ K q h
  unfold P_ref09_Show_L2 at h
  split at h
  · exact E0_ref09_Show_L2 p   n _ _ _ _ _ h
  · exact hF _ _ _ _ _ h
abbrev Ty_ref09_Show_L0 : Type 1 := List (List Dat) → List (List Dat) → Int → (γ : Type) → (Ex → List (List Dat) → Int → Option γ) → Option γ
def P_ref09_Show_L0 (X : Ty_ref09_Show_L0) (F : Loop3) : Loop3 := fun a s γ K => match a, s with
  | [AVal.dat (Dat.sl v_l)], ([AVal.dat (Dat.sl v_out), AVal.dat (Dat.int IntKind.i64 v_i)], []) => X v_l v_out v_i γ (fun e x0 x1 => K (e, ([AVal.dat (Dat.sl x0), AVal.dat (Dat.int IntKind.i64 x1)], [])))
  | a, s => F a s γ K
def T_ref09_Show_L0 (x_ref09_Show_L2 : Ty_ref09_Show_L2) : CallK := noneK
def L_ref09_Show_L0 (x_ref09_Show_L2 : Ty_ref09_Show_L2) : LoopK := (addL noneL 8 2 (P_ref09_Show_L2 x_ref09_Show_L2 noneL3))
def Sp.B_ref09_Show_L0 (x_ref09_Show_L0 : Ty_ref09_Show_L0) (x_ref09_Show_L2 : Ty_ref09_Show_L2) (v_l : List (List Dat)) (v_out : List (List Dat)) (v_i : Int) (γ : Type) (K : Ex → List (List Dat) → Int → Option γ) : Option γ := bif sized v_out 1 then bif decide (v_i < Int.ofNat (List.length v_l)) then bif decide (0 < v_i) then bif sized v_out 1 && true && true && decide ((List.length v_out + 1) * 2 ≤ 70368744177664) && true then elemAt v_l v_i fun (z5 : List Dat) => bif List.length z5 == 4 then cellAt (List.drop 0 z5) 0 fun (z6 : Dat) => Aev.asInt IntKind.i64 z6 fun (z7 : Int) => bif !decide (z7 = 4) then elemAt v_l v_i fun (z8 : List Dat) => bif List.length z8 == 4 then cellAt (List.drop 1 z8) 0 fun (z9 : Dat) => asStr z9 fun (z10 : ByteArray) => bif sized (v_out ++ [[Dat.int IntKind.u8 32]]) 1 && sized (bytesEs z10) 1 && true && decide ((List.length (v_out ++ [[Dat.int IntKind.u8 32]]) + List.length (bytesEs z10)) * 2 ≤ 70368744177664) && true then x_ref09_Show_L0 v_l (v_out ++ [[Dat.int IntKind.u8 32]] ++ bytesEs z10) (IntKind.wrap IntKind.i64 (v_i + 1)) γ K else none else none else bif sized (v_out ++ [[Dat.int IntKind.u8 32]]) 1 && true && true && decide ((List.length (v_out ++ [[Dat.int IntKind.u8 32]]) + 1) * 2 ≤ 70368744177664) && true then x_ref09_Show_L2 v_l v_i (v_out ++ [[Dat.int IntKind.u8 32]] ++ [[Dat.int IntKind.u8 39]]) 0 γ fun (z11 : Ex) (z12 : List (List Dat)) (z13 : Int) => bif sized z12 1 then bif Ex.isExit z11 2 then bif sized z12 1 && true && true && decide ((List.length z12 + 1) * 2 ≤ 70368744177664) && true then x_ref09_Show_L0 v_l (z12 ++ [[Dat.int IntKind.u8 39]]) (IntKind.wrap IntKind.i64 (v_i + 1)) γ K else none else bif Ex.isRet z11 then K Ex.ret z12 v_i else none else none else none else none else none else elemAt v_l v_i fun (z14 : List Dat) => bif List.length z14 == 4 then cellAt (List.drop 0 z14) 0 fun (z15 : Dat) => Aev.asInt IntKind.i64 z15 fun (z16 : Int) => bif !decide (z16 = 4) then elemAt v_l v_i fun (z17 : List Dat) => bif List.length z17 == 4 then cellAt (List.drop 1 z17) 0 fun (z18 : Dat) => asStr z18 fun (z19 : ByteArray) => bif sized v_out 1 && sized (bytesEs z19) 1 && true && decide ((List.length v_out + List.length (bytesEs z19)) * 2 ≤ 70368744177664) && true then x_ref09_Show_L0 v_l (v_out ++ bytesEs z19) (IntKind.wrap IntKind.i64 (v_i + 1)) γ K else none else none else bif sized v_out 1 && true && true && decide ((List.length v_out + 1) * 2 ≤ 70368744177664) && true then x_ref09_Show_L2 v_l v_i (v_out ++ [[Dat.int IntKind.u8 39]]) 0 γ fun (z20 : Ex) (z21 : List (List Dat)) (z22 : Int) => bif sized z21 1 then bif Ex.isExit z20 2 then bif sized z21 1 && true && true && decide ((List.length z21 + 1) * 2 ≤ 70368744177664) && true then x_ref09_Show_L0 v_l (z21 ++ [[Dat.int IntKind.u8 39]]) (IntKind.wrap IntKind.i64 (v_i + 1)) γ K else none else bif Ex.isRet z20 then K Ex.ret z21 v_i else none else none else none else none else K (Ex.exit 0) v_out v_i else none
theorem e_ref09_Show_L0 (p : Par) (x_ref09_Show_L0 : Ty_ref09_Show_L0) (x_ref09_Show_L2 : Ty_ref09_Show_L2) (v_l : List (List Dat)) (v_out : List (List Dat)) (v_i : Int) (γ : Type) (K : Ex × Vars → Option γ) : roundK (cfg p) (T_ref09_Show_L0 x_ref09_Show_L2) (L_ref09_Show_L0 x_ref09_Show_L2) 8 0 [AVal.dat (Dat.sl v_l)] ([AVal.dat (Dat.sl v_out), AVal.dat (Dat.int IntKind.i64 v_i)], []) γ (contL (fun v => P_ref09_Show_L0 x_ref09_Show_L0 noneL3 [AVal.dat (Dat.sl v_l)] v γ K) K) = Sp.B_ref09_Show_L0 x_ref09_Show_L0 x_ref09_Show_L2 v_l v_out v_i γ (fun e x0 x1 => K (e, ([AVal.dat (Dat.sl x0), AVal.dat (Dat.int IntKind.i64 x1)], []))) := by kernel_rfl
def Sp.ref09_Show_L0 : Nat → Ty_ref09_Show_L0
  | 0 => fun _ _ _ _ _ => none
  | n + 1 => Sp.B_ref09_Show_L0 (Sp.ref09_Show_L0 n) (Sp.ref09_Show_L2 fuel)
theorem E0_ref09_Show_L0 (p : Par)   : ∀ n, EntOkL (cfg p) 8 0 (P_ref09_Show_L0 (Sp.ref09_Show_L0  n) noneL3) := entL_rounds (tab_loop (tab_nil _) (E_ref09_Show_L2 p fuel (entL_none _ _ _))) (by kernel_rfl) (fun c v γ K => by unfold P_ref09_Show_L0; split <;> rfl) fun n c v γ K q h => by
  unfold P_ref09_Show_L0 at h
  split at h
  · exact (e_ref09_Show_L0 p _ _ _ _ _ _ _).trans h
  · cases h
theorem E_ref09_Show_L0 (p : Par)   (n : Nat) {F : Loop3} (hF : EntOkL (cfg p) 8 0 F) : EntOkL (cfg p) 8 0 (P_ref09_Show_L0 (Sp.ref09_Show_L0  n) F) := by
  intro c v γ K q h
  unfold P_ref09_Show_L0 at h
  split at h
  · exact E0_ref09_Show_L0 p   n _ _ _ _ _ h
  · exact hF _ _ _ _ _ h
abbrev Ty_ref09_Show : Type 1 := List (List Dat) → (γ : Type) → (ByteArray → Option γ) → Option γ
def P_ref09_Show (X : Ty_ref09_Show) (F : Ent3) : Ent3 := fun a s γ K => match a, s with
  | [AVal.dat (Dat.sl v_l)], [] => X v_l γ (fun r0 => K ([(AVal.dat (Dat.str r0), Own.none)], []))
  | a, s => F a s γ K
def T_ref09_Show (x_ref09_Show_L0 : Ty_ref09_Show_L0) : CallK := noneK
def L_ref09_Show (x_ref09_Show_L0 : Ty_ref09_Show_L0) : LoopK := (addL noneL 8 0 (P_ref09_Show_L0 x_ref09_Show_L0 noneL3))
def Sp.B_ref09_Show (x_ref09_Show_L0 : Ty_ref09_Show_L0) (v_l : List (List Dat)) (γ : Type) (K : ByteArray → Option γ) : Option γ := x_ref09_Show_L0 v_l [] 0 γ fun (z3 : Ex) (z4 : List (List Dat)) (z5 : Int) =>
    bif sized z4 1 then
      bif Ex.isExit z3 0 then
        match esBytes z4 with
        | some z7 => K { data := { toList := z7 } }
        | none => none
      else bif Ex.isRet z3 then none else none
    else none
theorem e_ref09_Show (p : Par) (x_ref09_Show_L0 : Ty_ref09_Show_L0) (v_l : List (List Dat)) (γ : Type) (K : List Ent × Sig → Option γ) : evFK (cfg p) (T_ref09_Show x_ref09_Show_L0) (L_ref09_Show x_ref09_Show_L0) 8 [AVal.dat (Dat.sl v_l)] [] γ K = Sp.B_ref09_Show x_ref09_Show_L0 v_l γ (fun r0 => K ([(AVal.dat (Dat.str r0), Own.none)], [])) := by kernel_rfl
def Sp.ref09_Show : Ty_ref09_Show := Sp.B_ref09_Show (Sp.ref09_Show_L0 fuel)
theorem E_ref09_Show (p : Par) {F : Ent3} (hF : EntOk (cfg p) 8 F) : EntOk (cfg p) 8 (P_ref09_Show Sp.ref09_Show F) := by
  intro a s γ K q h
  unfold P_ref09_Show at h
  split at h
  · exact body_ok (tab_loop (tab_nil _) (E_ref09_Show_L0 p fuel (entL_none _ _ _))) rfl ((e_ref09_Show p _ _ _ _).trans h)
  · exact hF _ _ _ _ _ h
abbrev Ty_ref09_Same_L0 : Type 1 := List (List Dat) → List (List Dat) → Bool → Bool → Int → (γ : Type) → (Ex → Bool → Int → Option γ) → Option γ
def P_ref09_Same_L0 (X : Ty_ref09_Same_L0) (F : Loop3) : Loop3 := fun a s γ K => match a, s with
  | [AVal.dat (Dat.sl v_a), AVal.dat (Dat.sl v_b), AVal.dat (Dat.bool v_places)], ([AVal.dat (Dat.bool v_), AVal.dat (Dat.int IntKind.i64 v_i)], []) => X v_a v_b v_places v_ v_i γ (fun e x0 x1 => K (e, ([AVal.dat (Dat.bool x0), AVal.dat (Dat.int IntKind.i64 x1)], [])))
  | a, s => F a s γ K
def T_ref09_Same_L0  : CallK := noneK
def L_ref09_Same_L0  : LoopK := noneL
def Sp.B_ref09_Same_L0 (x_ref09_Same_L0 : Ty_ref09_Same_L0)  (v_a : List (List Dat)) (v_b : List (List Dat)) (v_places : Bool) (v_ : Bool) (v_i : Int) (γ : Type) (K : Ex → Bool → Int → Option γ) : Option γ := bif decide (v_i < Int.ofNat (List.length v_a)) then elemAt v_b v_i fun (z7 : List Dat) => bif List.length z7 == 4 then cellAt z7 0 fun (z8 : Dat) => Aev.asInt IntKind.i64 z8 fun (z9 : Int) => cellAt z7 1 fun (z10 : Dat) => asStr z10 fun (z11 : ByteArray) => cellAt z7 2 fun (z12 : Dat) => Aev.asInt IntKind.i64 z12 fun (z13 : Int) => cellAt z7 3 fun (z14 : Dat) => Aev.asInt IntKind.i64 z14 fun (z15 : Int) => bif !v_places then elemAt v_a v_i fun (z16 : List Dat) => bif List.length z16 == 4 then cellAt (List.drop 3 z16) 0 fun (z17 : Dat) => Aev.asInt IntKind.i64 z17 fun (z18 : Int) => elemAt v_a v_i fun (z19 : List Dat) => bif List.length z19 == 4 then cellAt z19 0 fun (z20 : Dat) => Aev.asInt IntKind.i64 z20 fun (z21 : Int) => cellAt z19 1 fun (z22 : Dat) => asStr z22 fun (z23 : ByteArray) => cellAt z19 2 fun (z24 : Dat) => Aev.asInt IntKind.i64 z24 fun (z25 : Int) => cellAt z19 3 fun (z26 : Dat) => Aev.asInt IntKind.i64 z26 fun (z27 : Int) => bif !(decide (z21 = z9) && (decide (z23 = z11) && (decide (z25 = z13) && (decide (z27 = z18) && true)))) then K Ex.ret false v_i else x_ref09_Same_L0 v_a v_b v_places v_ (IntKind.wrap IntKind.i64 (v_i + 1)) γ K else none else none else elemAt v_a v_i fun (z28 : List Dat) => bif List.length z28 == 4 then cellAt z28 0 fun (z29 : Dat) => Aev.asInt IntKind.i64 z29 fun (z30 : Int) => cellAt z28 1 fun (z31 : Dat) => asStr z31 fun (z32 : ByteArray) => cellAt z28 2 fun (z33 : Dat) => Aev.asInt IntKind.i64 z33 fun (z34 : Int) => cellAt z28 3 fun (z35 : Dat) => Aev.asInt IntKind.i64 z35 fun (z36 : Int) => bif !(decide (z30 = z9) && (decide (z32 = z11) && (decide (z34 = z13) && (decide (z36 = z15) && true)))) then K Ex.ret false v_i else x_ref09_Same_L0 v_a v_b v_places v_ (IntKind.wrap IntKind.i64 (v_i + 1)) γ K else none else none else K (Ex.exit 0) v_ v_i
theorem e_ref09_Same_L0 (p : Par) (x_ref09_Same_L0 : Ty_ref09_Same_L0)  (v_a : List (List Dat)) (v_b : List (List Dat)) (v_places : Bool) (v_ : Bool) (v_i : Int) (γ : Type) (K : Ex × Vars → Option γ) : roundK (cfg p) (T_ref09_Same_L0 ) (L_ref09_Same_L0 ) 9 0 [AVal.dat (Dat.sl v_a), AVal.dat (Dat.sl v_b), AVal.dat (Dat.bool v_places)] ([AVal.dat (Dat.bool v_), AVal.dat (Dat.int IntKind.i64 v_i)], []) γ (contL (fun v => P_ref09_Same_L0 x_ref09_Same_L0 noneL3 [AVal.dat (Dat.sl v_a), AVal.dat (Dat.sl v_b), AVal.dat (Dat.bool v_places)] v γ K) K) = Sp.B_ref09_Same_L0 x_ref09_Same_L0  v_a v_b v_places v_ v_i γ (fun e x0 x1 => K (e, ([AVal.dat (Dat.bool x0), AVal.dat (Dat.int IntKind.i64 x1)], []))) := by kernel_rfl
def Sp.ref09_Same_L0 : Nat → Ty_ref09_Same_L0
  | 0 => fun _ _ _ _ _ _ _ => none
  | n + 1 => Sp.B_ref09_Same_L0 (Sp.ref09_Same_L0 n) 
theorem E0_ref09_Same_L0 (p : Par)   : ∀ n, EntOkL (cfg p) 9 0 (P_ref09_Same_L0 (Sp.ref09_Same_L0  n) noneL3) := entL_rounds (tab_nil _) (by kernel_rfl) (fun c v γ K => by unfold P_ref09_Same_L0; split <;> rfl) fun n c v γ K q h => by
  unfold P_ref09_Same_L0 at h
  split at h
  · exact (e_ref09_Same_L0 p _  _ _ _ _ _ _ _).trans h
  · cases h
theorem E_ref09_Same_L0 (p : Par)   (n : Nat) {F : Loop3} (hF : EntOkL (cfg p) 9 0 F) : EntOkL (cfg p) 9 0 (P_ref09_Same_L0 (Sp.ref09_Same_L0  n) F) := by
  intro c v γ K q h
  unfold P_ref09_Same_L0 at h
  split at h
  · exact E0_ref09_Same_L0 p   n _ _ _ _ _ h
  · exact hF _ _ _ _ _ h
abbrev Ty_ref09_Same : Type 1 := List (List Dat) → List (List Dat) → Bool → (γ : Type) → (Bool → Option γ) → Option γ
def P_ref09_Same (X : Ty_ref09_Same) (F : Ent3) : Ent3 := fun a s γ K => match a, s with
  | [AVal.dat (Dat.sl v_a), AVal.dat (Dat.sl v_b), AVal.dat (Dat.bool v_places)], [] => X v_a v_b v_places γ (fun r0 => K ([(AVal.dat (Dat.bool r0), Own.none)], []))
  | a, s => F a s γ K
def T_ref09_Same (x_ref09_Same_L0 : Ty_ref09_Same_L0) : CallK := noneK
def L_ref09_Same (x_ref09_Same_L0 : Ty_ref09_Same_L0) : LoopK := (addL noneL 9 0 (P_ref09_Same_L0 x_ref09_Same_L0 noneL3))
def Sp.B_ref09_Same (x_ref09_Same_L0 : Ty_ref09_Same_L0) (v_a : List (List Dat)) (v_b : List (List Dat)) (v_places : Bool) (γ : Type) (K : Bool → Option γ) : Option γ := bif !decide (Int.ofNat (List.length v_a) = Int.ofNat (List.length v_b)) then K false else x_ref09_Same_L0 v_a v_b v_places false 0 γ fun (z5 : Ex) (z6 : Bool) (z7 : Int) => bif Ex.isExit z5 0 then K true else bif Ex.isRet z5 then K z6 else none
theorem e_ref09_Same (p : Par) (x_ref09_Same_L0 : Ty_ref09_Same_L0) (v_a : List (List Dat)) (v_b : List (List Dat)) (v_places : Bool) (γ : Type) (K : List Ent × Sig → Option γ) : evFK (cfg p) (T_ref09_Same x_ref09_Same_L0) (L_ref09_Same x_ref09_Same_L0) 9 [AVal.dat (Dat.sl v_a), AVal.dat (Dat.sl v_b), AVal.dat (Dat.bool v_places)] [] γ K = Sp.B_ref09_Same x_ref09_Same_L0 v_a v_b v_places γ (fun r0 => K ([(AVal.dat (Dat.bool r0), Own.none)], [])) := by kernel_rfl
def Sp.ref09_Same : Ty_ref09_Same := Sp.B_ref09_Same (Sp.ref09_Same_L0 fuel)
theorem E_ref09_Same (p : Par) {F : Ent3} (hF : EntOk (cfg p) 9 F) : EntOk (cfg p) 9 (P_ref09_Same Sp.ref09_Same F) := by
  intro a s γ K q h
  unfold P_ref09_Same at h
  split at h
  · exact body_ok (tab_loop (tab_nil _) (E_ref09_Same_L0 p fuel (entL_none _ _ _))) rfl ((e_ref09_Same p _ _ _ _ _ _).trans h)
  · exact hF _ _ _ _ _ h
abbrev Ty_law09_LexShows : Type 1 := ByteArray → (γ : Type) → (Bool → Option γ) → Option γ
def P_law09_LexShows (X : Ty_law09_LexShows) (F : Ent3) : Ent3 := fun a s γ K => match a, s with
  | [AVal.dat (Dat.str v_s)], [] => X v_s γ (fun r0 => K ([(AVal.dat (Dat.bool r0), Own.none)], []))
  | a, s => F a s γ K
def T_law09_LexShows (x_law09_lives : Ty_law09_lives) (x_lex_All : Ty_lex_All) (x_lex_Show : Ty_lex_Show) (x_ref09_Show : Ty_ref09_Show) (x_ref09_Same : Ty_ref09_Same) : CallK := (addK (addK (addK (addK (addK noneK 5 (P_law09_lives x_law09_lives none3)) 6 (P_lex_All x_lex_All none3)) 7 (P_lex_Show x_lex_Show none3)) 8 (P_ref09_Show x_ref09_Show none3)) 9 (P_ref09_Same x_ref09_Same none3))
def L_law09_LexShows (x_law09_lives : Ty_law09_lives) (x_lex_All : Ty_lex_All) (x_lex_Show : Ty_lex_Show) (x_ref09_Show : Ty_ref09_Show) (x_ref09_Same : Ty_ref09_Same) : LoopK := noneL
def Sp.B_law09_LexShows (x_law09_lives : Ty_law09_lives) (x_lex_All : Ty_lex_All) (x_lex_Show : Ty_lex_Show) (x_ref09_Show : Ty_ref09_Show) (x_ref09_Same : Ty_ref09_Same) (v_s : ByteArray) (γ : Type) (K : Bool → Option γ) : Option γ := bif decide (4000 < Int.ofNat (ByteArray.size v_s)) then x_law09_lives γ fun (z3 : Bool) => K z3 else x_lex_All v_s γ fun (z4 : List (List Dat)) (z5 z6 : Int) => x_law09_lives γ fun (z7 : Bool) => bif !z7 then x_law09_lives γ fun (z8 : Bool) => K z8 else bif !decide (z6 = 0) then x_law09_lives γ fun (z9 : Bool) => K z9 else x_lex_Show z4 γ fun (z10 : ByteArray) => x_lex_All z10 γ fun (z11 : List (List Dat)) (z12 z13 : Int) => x_ref09_Show z4 γ fun (z14 : ByteArray) => bif decide (z10 = z14) then bif decide (z13 = 0) then x_ref09_Same z4 z11 false γ fun (z15 : Bool) => K z15 else K false else K false
theorem e_law09_LexShows (p : Par) (x_law09_lives : Ty_law09_lives) (x_lex_All : Ty_lex_All) (x_lex_Show : Ty_lex_Show) (x_ref09_Show : Ty_ref09_Show) (x_ref09_Same : Ty_ref09_Same) (v_s : ByteArray) (γ : Type) (K : List Ent × Sig → Option γ) : evFK (cfg p) (T_law09_LexShows x_law09_lives x_lex_All x_lex_Show x_ref09_Show x_ref09_Same) (L_law09_LexShows x_law09_lives x_lex_All x_lex_Show x_ref09_Show x_ref09_Same) 3 [AVal.dat (Dat.str v_s)] [] γ K = Sp.B_law09_LexShows x_law09_lives x_lex_All x_lex_Show x_ref09_Show x_ref09_Same v_s γ (fun r0 => K ([(AVal.dat (Dat.bool r0), Own.none)], [])) := by kernel_rfl
def Sp.law09_LexShows : Ty_law09_LexShows := Sp.B_law09_LexShows Sp.law09_lives Sp.lex_All Sp.lex_Show Sp.ref09_Show Sp.ref09_Same
theorem E_law09_LexShows (p : Par) {F : Ent3} (hF : EntOk (cfg p) 3 F) : EntOk (cfg p) 3 (P_law09_LexShows Sp.law09_LexShows F) := by
  intro a s γ K q h
  unfold P_law09_LexShows at h
  split at h
  · exact body_ok (tab_call (tab_call (tab_call (tab_call (tab_call (tab_nil _) (E_law09_lives p (ent_none _ _))) (E_lex_All p (ent_none _ _))) (E_lex_Show p (ent_none _ _))) (E_ref09_Show p (ent_none _ _))) (E_ref09_Same p (ent_none _ _))) rfl ((e_law09_LexShows p _ _ _ _ _ _ _ _).trans h)
  · exact hF _ _ _ _ _ h
abbrev Ty_law09_LexJoins : Type 1 := ByteArray → ByteArray → (γ : Type) → (Bool → Option γ) → Option γ
def P_law09_LexJoins (X : Ty_law09_LexJoins) (F : Ent3) : Ent3 := fun a s γ K => match a, s with
  | [AVal.dat (Dat.str v_s), AVal.dat (Dat.str v_t)], [] => X v_s v_t γ (fun r0 => K ([(AVal.dat (Dat.bool r0), Own.none)], []))
  | a, s => F a s γ K
def T_law09_LexJoins (x_law09_lives : Ty_law09_lives) (x_lex_All : Ty_lex_All) (x_ref09_Same : Ty_ref09_Same) : CallK := (addK (addK (addK noneK 5 (P_law09_lives x_law09_lives none3)) 6 (P_lex_All x_lex_All none3)) 9 (P_ref09_Same x_ref09_Same none3))
def L_law09_LexJoins (x_law09_lives : Ty_law09_lives) (x_lex_All : Ty_lex_All) (x_ref09_Same : Ty_ref09_Same) : LoopK := noneL
def Sp.B_law09_LexJoins (x_law09_lives : Ty_law09_lives) (x_lex_All : Ty_lex_All) (x_ref09_Same : Ty_ref09_Same) (v_s : ByteArray) (v_t : ByteArray) (γ : Type) (K : Bool → Option γ) : Option γ := bif decide (2000 < Int.ofNat (ByteArray.size v_s)) then x_law09_lives γ fun (z4 : Bool) => K z4 else bif decide (2000 < Int.ofNat (ByteArray.size v_t)) then x_law09_lives γ fun (z5 : Bool) => K z5 else x_lex_All v_s γ fun (z6 : List (List Dat)) (z7 z8 : Int) => x_lex_All v_t γ fun (z9 : List (List Dat)) (z10 z11 : Int) => bif decide (ByteArray.size v_s + 1 ≤ 1152921504606846976) then bif decide (ByteArray.size (v_s ++ bs [10]) + ByteArray.size v_t ≤ 1152921504606846976) then x_lex_All (v_s ++ bs [10] ++ v_t) γ fun (z12 : List (List Dat)) (z13 z14 : Int) => x_law09_lives γ fun (z15 : Bool) => bif !z15 then x_law09_lives γ fun (z16 : Bool) => K z16 else bif !decide (z8 = 0) then x_law09_lives γ fun (z17 : Bool) => K z17 else bif !decide (z11 = 0) then x_law09_lives γ fun (z18 : Bool) => K z18 else bif decide (4096 < IntKind.wrap IntKind.i64 (Int.ofNat (List.length z6) + Int.ofNat (List.length z9))) then x_law09_lives γ fun (z19 : Bool) => K z19 else bif !decide (z14 = 0) then K false else bif !decide (z13 = IntKind.wrap IntKind.i64 (IntKind.wrap IntKind.i64 (z7 + 1) + z10)) then K false else bif !decide (Int.ofNat (List.length z12) = IntKind.wrap IntKind.i64 (IntKind.wrap IntKind.i64 (Int.ofNat (List.length z6) - 1) + Int.ofNat (List.length z9))) then K false else bif decide (0 ≤ IntKind.wrap IntKind.i64 (Int.ofNat (List.length z6) - 1)) && decide (IntKind.wrap IntKind.i64 (Int.ofNat (List.length z6) - 1) ≤ Int.ofNat (List.length z6)) && true && true then bif decide (0 ≤ IntKind.wrap IntKind.i64 (Int.ofNat (List.length z6) - 1)) && decide (IntKind.wrap IntKind.i64 (Int.ofNat (List.length z6) - 1) ≤ Int.ofNat (List.length z12)) && true && true then x_ref09_Same (List.drop 0 (List.take (Int.toNat (IntKind.wrap IntKind.i64 (Int.ofNat (List.length z6) - 1))) z6)) (List.drop 0 (List.take (Int.toNat (IntKind.wrap IntKind.i64 (Int.ofNat (List.length z6) - 1))) z12)) true γ fun (z20 : Bool) => bif z20 then bif decide (0 ≤ IntKind.wrap IntKind.i64 (Int.ofNat (List.length z6) - 1)) && decide (IntKind.wrap IntKind.i64 (Int.ofNat (List.length z6) - 1) ≤ Int.ofNat (List.length z12)) && decide (Int.ofNat (List.length z12) ≤ Int.ofNat (List.length z12)) && true && sized z12 4 then x_ref09_Same z9 (List.drop (Int.toNat (IntKind.wrap IntKind.i64 (Int.ofNat (List.length z6) - 1))) (List.take (Int.toNat (Int.ofNat (List.length z12))) z12)) false γ fun (z21 : Bool) => K z21 else none else K false else none else none else none else none
theorem e_law09_LexJoins (p : Par) (x_law09_lives : Ty_law09_lives) (x_lex_All : Ty_lex_All) (x_ref09_Same : Ty_ref09_Same) (v_s : ByteArray) (v_t : ByteArray) (γ : Type) (K : List Ent × Sig → Option γ) : evFK (cfg p) (T_law09_LexJoins x_law09_lives x_lex_All x_ref09_Same) (L_law09_LexJoins x_law09_lives x_lex_All x_ref09_Same) 4 [AVal.dat (Dat.str v_s), AVal.dat (Dat.str v_t)] [] γ K = Sp.B_law09_LexJoins x_law09_lives x_lex_All x_ref09_Same v_s v_t γ (fun r0 => K ([(AVal.dat (Dat.bool r0), Own.none)], [])) := by kernel_rfl
def Sp.law09_LexJoins : Ty_law09_LexJoins := Sp.B_law09_LexJoins Sp.law09_lives Sp.lex_All Sp.ref09_Same
theorem E_law09_LexJoins (p : Par) {F : Ent3} (hF : EntOk (cfg p) 4 F) : EntOk (cfg p) 4 (P_law09_LexJoins Sp.law09_LexJoins F) := by
  intro a s γ K q h
  unfold P_law09_LexJoins at h
  split at h
  · exact body_ok (tab_call (tab_call (tab_call (tab_nil _) (E_law09_lives p (ent_none _ _))) (E_lex_All p (ent_none _ _))) (E_ref09_Same p (ent_none _ _))) rfl ((e_law09_LexJoins p _ _ _ _ _ _ _).trans h)
  · exact hF _ _ _ _ _ h
end
end Go.Proofs.YtffhgjoemimmnaaDoor

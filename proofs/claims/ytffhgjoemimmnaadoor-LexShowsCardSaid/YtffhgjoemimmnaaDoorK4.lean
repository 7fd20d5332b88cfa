/- The scanner, in plain Lean: what its parts compute. -/
import Derived.Test.YtffhgjoemimmnaaDoorK3
import Derived.Test.YtffhgjoemimmnaaDoorAevC
set_option linter.unusedVariables false
set_option linter.unusedSimpArgs false
namespace Go.Proofs.YtffhgjoemimmnaaDoor
open Go Go.Aev Go.RowKit

/-- a byte as the number that Go sees -/
abbrev ci (c : UInt8) : Int := Int.ofNat (BitVec.toFin (UInt8.toBitVec c)).1
def lowI (v : Int) : Int := IntKind.wrap IntKind.u8 (Int.ofNat (BitVec.toFin (BitVec.ofInt (IntKind.bits IntKind.u8) v ||| BitVec.ofInt (IntKind.bits IntKind.u8) 32)).1)
def letterI (v : Int) : Bool := (decide (97 ≤ lowI v) && decide (lowI v ≤ 122)) || decide (v = 95)
def digitI (v : Int) : Bool := decide (48 ≤ v) && decide (v ≤ 57)
def letter (c : UInt8) : Bool := letterI (ci c)
def digit (c : UInt8) : Bool := digitI (ci c)
def isW (c : UInt8) : Bool := letter c || digit c

theorem letter_eq (v : Int) (γ : Type) (K : Bool → Option γ) : Sp.lex_letter v γ K = K (letterI v) := by
  show (bif decide (97 ≤ lowI v) then bif decide (lowI v ≤ 122) then K true else K (decide (v = 95)) else K (decide (v = 95))) = K (letterI v)
  unfold letterI
  cases decide (97 ≤ lowI v) <;> cases decide (lowI v ≤ 122) <;> rfl
theorem digit_eq (v : Int) (γ : Type) (K : Bool → Option γ) : Sp.lex_digit v γ K = K (digitI v) := by
  unfold Sp.lex_digit Sp.B_lex_digit digitI
  cases decide (48 ≤ v) <;> simp
theorem left_eq (b : ByteArray) (n : Int) (γ : Type) (K : Bool → ByteArray → Int → Option γ) : Sp.lex_scanner_left b n γ K = K (decide (n < (b.size : Int))) b n := rfl

theorem drop_cons {l : List UInt8} {i : Nat} (h : i < l.length) : ∃ c, l[i]? = some c ∧ l.drop i = c :: l.drop (i + 1) := by
  refine ⟨l[i], List.getElem?_eq_getElem h, ?_⟩
  exact List.drop_eq_getElem_cons h

/-! ### runs -/
def runN (l : List UInt8) : Nat := (l.takeWhile isW).length
theorem runN_le (l : List UInt8) : runN l ≤ l.length := (List.takeWhile_prefix _).length_le

theorem run_loop (from_ : Int) (γ : Type) (K : Ex → ByteArray → Int → Option γ) (l : List UInt8) (hl : l.length ≤ 4611686018427387904) : ∀ (d i n : Nat), l.length = i + d → d < n → Sp.lex_scanner_run_L0 n from_ (mk l) (i : Int) γ K = K (Ex.exit 0) (mk l) ((i + runN (l.drop i) : Nat) : Int) := by
  intro d
  induction d with
  | zero =>
    intro i n hi hn
    obtain ⟨n, rfl⟩ : ∃ m, n = m + 1 := ⟨n - 1, by omega⟩
    have : l.drop i = [] := List.drop_eq_nil_of_le (by omega)
    rw [this]
    unfold Sp.lex_scanner_run_L0 Sp.B_lex_scanner_run_L0
    rw [left_eq, size_mk, decide_eq_false (by omega)]
    simp [runN]
  | succ d ih =>
    intro i n hi hn
    obtain ⟨n, rfl⟩ : ∃ m, n = m + 1 := ⟨n - 1, by omega⟩
    obtain ⟨c, hc, hd⟩ := drop_cons (l := l) (i := i) (by omega)
    unfold Sp.lex_scanner_run_L0 Sp.B_lex_scanner_run_L0
    rw [left_eq, size_mk, decide_eq_true (by omega), cond_true, byteAt_some hc, letter_eq]
    have hnext : IntKind.wrap .i64 ((i : Int) + 1) = ((i + 1 : Nat) : Int) := by rw [wrap_i64 (by omega)]; omega
    rw [hd, hnext]
    have hrec := ih (i + 1) n (by omega) (by omega)
    unfold runN
    rw [List.takeWhile_cons]
    cases hL : letterI (ci c) with
    | true =>
      rw [cond_true, hrec]
      have : isW c = true := by show (letterI (ci c) || digitI (ci c)) = true; rw [hL]; rfl
      rw [if_pos this, List.length_cons]
      unfold runN
      congr 2
      omega
    | false =>
      rw [cond_false, byteAt_some hc, digit_eq]
      cases hD : digitI (ci c) with
      | true =>
        rw [cond_true, hrec]
        have : isW c = true := by show (letterI (ci c) || digitI (ci c)) = true; rw [hL, hD]; rfl
        rw [if_pos this, List.length_cons]
        unfold runN
        congr 2
        omega
      | false =>
        have : isW c = false := by show (letterI (ci c) || digitI (ci c)) = false; rw [hL, hD]; rfl
        rw [cond_false, this]
        simp

theorem run_eq (l : List UInt8) (i : Nat) (hi : i ≤ l.length) (hl : l.length ≤ 16777216) (γ : Type) (K : ByteArray → ByteArray → Int → Option γ) :
    Sp.lex_scanner_run (mk l) (i : Int) γ K = K (mk ((l.drop i).take (runN (l.drop i)))) (mk l) ((i + runN (l.drop i) : Nat) : Int) := by
  unfold Sp.lex_scanner_run Sp.B_lex_scanner_run
  rw [run_loop _ _ _ l (by omega) (l.length - i) i fuel (by omega) (by unfold fuel; omega)]
  have h1 := runN_le (l.drop i)
  rw [List.length_drop] at h1
  simp only [Ex.isExit, beq_self_eq_true, cond_true, size_mk]
  rw [decide_eq_true (show (0 : Int) ≤ (i : Int) by omega), decide_eq_true (show (i : Int) ≤ ((i + runN (l.drop i) : Nat) : Int) by omega), decide_eq_true (show ((i + runN (l.drop i) : Nat) : Int) ≤ Int.ofNat l.length by simp only [Int.ofNat_eq_natCast]; omega)]
  simp only [Bool.and_true, Bool.true_and, cond_true, extract_mk, Int.toNat_natCast]
  rw [List.drop_take, show i + runN (l.drop i) - i = runN (l.drop i) by omega]

/-! ### blanks and remarks -/
def blank (c : UInt8) : Bool := c == 32 || c == 9 || c == 10 || c == 13
def remark : List UInt8 → Bool
  | 45 :: 45 :: _ => true
  | _ => false
/-- up to the end of the line -/
def lineN : List UInt8 → Nat
  | [] => 0
  | c :: r => cond (c == 10) 0 (lineN r + 1)
theorem lineN_le : ∀ l : List UInt8, lineN l ≤ l.length
  | [] => Nat.le_refl _
  | c :: r => by
    have := lineN_le r
    unfold lineN
    cases c == 10 with
    | true => simp
    | false => simp; exact this

theorem index_line : ∀ l : List UInt8, (Lib.indexByte l 10 = -1 ∧ lineN l = l.length) ∨ (Lib.indexByte l 10 = lineN l ∧ lineN l < l.length)
  | [] => .inl ⟨rfl, rfl⟩
  | c :: r => by
    unfold Lib.indexByte lineN
    cases hc : c == 10 with
    | true => right; simp
    | false =>
      rcases index_line r with ⟨h1, h2⟩ | ⟨h1, h2⟩
      · left; simp [h1, h2]
      · right
        have : ¬ ((lineN r : Int) == -1) = true := by simp <;> omega
        rw [h1]
        simp only [Bool.false_eq_true, if_false, if_neg this, cond_false, List.length_cons]
        omega

theorem blank_index (c : UInt8) : decide (0 ≤ Lib.indexByte (bs [32, 9, 10, 13]).data.toList (ci c).toNat.toUInt8) = blank c := by
  have h : (ci c).toNat.toUInt8 = c := by
    show c.toNat.toUInt8 = c
    simp
  rw [h, bs_mk, data_mk]
  simp only [List.map, Lib.indexByte, blank]
  by_cases h1 : c = 32
  · subst h1; decide
  by_cases h2 : c = 9
  · subst h2; decide
  by_cases h3 : c = 10
  · subst h3; decide
  by_cases h4 : c = 13
  · subst h4; decide
  have e : ∀ n : Nat, c ≠ UInt8.ofNat n → (UInt8.ofNat n == c) = false := fun n hn => by simp; exact fun e => hn e.symm
  have e1 := e 32 h1
  have e2 := e 9 h2
  have e3 := e 10 h3
  have e4 := e 13 h4
  simp only [e1, e2, e3, e4]
  simp [h1, h2, h3, h4]

/-- how much is skipped -/
def skipN : Nat → List UInt8 → Nat
  | 0, _ => 0
  | _, [] => 0
  | n + 1, c :: r => cond (remark (c :: r)) (lineN (c :: r) + skipN n ((c :: r).drop (lineN (c :: r)))) (cond (blank c) (skipN n r + 1) 0)

theorem remark_prefix (l : List UInt8) : Lib.hasPrefix l (bs [45, 45]).data.toList = remark l := by
  rw [bs_mk, data_mk]
  unfold Lib.hasPrefix
  match l with
  | [] => rfl
  | [c] => simp [remark, List.isPrefixOf]
  | c :: d :: r =>
    simp only [List.map, List.isPrefixOf]
    by_cases h1 : c = 45
    · by_cases h2 : d = 45
      · subst h1 h2; rfl
      · subst h1
        have : (UInt8.ofNat 45 == d) = false := by simp; exact fun e => h2 e.symm
        rw [this]
        simp [remark, h2]
    · have : (UInt8.ofNat 45 == c) = false := by simp; exact fun e => h1 e.symm
      rw [this]
      simp [remark, h1]

theorem remark_line {l : List UInt8} (h : remark l = true) : 2 ≤ lineN l := by
  unfold remark at h
  split at h
  · simp [lineN]
  · cases h

theorem skip_loop (l : List UInt8) (hl : l.length ≤ 4611686018427387904) (γ : Type) (K : Ex → ByteArray → Int → Option γ) : ∀ (d : Nat) (i n m : Nat), i ≤ l.length → l.length - i ≤ d → d < n → d ≤ m → Sp.lex_scanner_skip_L0 n (mk l) (i : Int) γ K = K (Ex.exit 0) (mk l) ((i + skipN m (l.drop i) : Nat) : Int) := by
  intro d
  induction d with
  | zero =>
    intro i n m hi hd hn hm
    obtain ⟨n, rfl⟩ : ∃ k, n = k + 1 := ⟨n - 1, by omega⟩
    have : l.drop i = [] := List.drop_eq_nil_of_le (by omega)
    rw [this]
    unfold Sp.lex_scanner_skip_L0 Sp.B_lex_scanner_skip_L0
    rw [left_eq, size_mk, decide_eq_false (by omega)]
    cases m <;> simp [skipN]
  | succ d ih =>
    intro i n m hi hdd hn hm
    obtain ⟨n, rfl⟩ : ∃ k, n = k + 1 := ⟨n - 1, by omega⟩
    obtain ⟨m, rfl⟩ : ∃ k, m = k + 1 := ⟨m - 1, by omega⟩
    unfold Sp.lex_scanner_skip_L0 Sp.B_lex_scanner_skip_L0
    rw [left_eq, size_mk]
    rcases Nat.lt_or_ge i l.length with hlt | hlt
    case inr =>
      have : l.drop i = [] := List.drop_eq_nil_of_le (by omega)
      rw [this, decide_eq_false (by omega)]
      simp [skipN]
    obtain ⟨c, hc, hd⟩ := drop_cons (l := l) (i := i) hlt
    rw [decide_eq_true (by omega), cond_true, decide_eq_true (show (0 : Int) ≤ (i : Int) by omega)]
    simp only [size_mk, Int.ofNat_eq_natCast, Int.le_refl, decide_true, Bool.and_true, Bool.true_and, extract_mk, Int.toNat_natCast, List.take_length]
    rw [decide_eq_true (show (i : Int) ≤ (l.length : Int) by omega), cond_true]
    unfold Sp.strings_HasPrefix
    rw [data_mk, remark_prefix]
    cases hr : remark (l.drop i) with
    | true =>
      simp only [cond_true]
      unfold Sp.strings_IndexByte
      rw [data_mk, show ((10 : Int).toNat.toUInt8) = 10 from rfl]
      have h2 := remark_line hr
      have hle := lineN_le (l.drop i)
      rw [List.length_drop] at hle
      have hs : skipN (m + 1) (l.drop i) = lineN (l.drop i) + skipN m ((l.drop i).drop (lineN (l.drop i))) := by
        rw [hd] at hr ⊢
        rw [skipN, hr, cond_true]
      have hrec := ih (i + lineN (l.drop i)) n m (by omega) (by omega) (by omega) (by omega)
      rw [List.drop_drop] at hs
      rcases index_line (l.drop i) with ⟨h3, h4⟩ | ⟨h3, h4⟩
      · rw [h3]
        simp only [show decide ((-1 : Int) < 0) = true from rfl, cond_true]
        rw [show IntKind.wrap .i64 ((i : Int) + ((l.drop i).length : Int)) = ((i + lineN (l.drop i) : Nat) : Int) by rw [h4] at hle ⊢; rw [wrap_i64 (by rw [List.length_drop]; omega)]; omega]
        rw [hrec, hs]
        congr 2
        omega
      · rw [h3]
        simp only [decide_eq_false (show ¬ ((lineN (l.drop i) : Int) < 0) by omega), cond_false]
        rw [show IntKind.wrap .i64 ((i : Int) + (lineN (l.drop i) : Int)) = ((i + lineN (l.drop i) : Nat) : Int) by rw [wrap_i64 (by omega)]; omega]
        rw [hrec, hs]
        congr 2
        omega
    | false =>
      simp only [cond_false]
      rw [hd]
      have hs : skipN (m + 1) (c :: l.drop (i + 1)) = cond (blank c) (skipN m (l.drop (i + 1)) + 1) 0 := by
        rw [hd] at hr
        rw [skipN, hr, cond_false]
      rw [hs]
      have hb : byteAt (mk (c :: l.drop (i + 1))) 0 = fun (F : UInt8 → Option γ) => F c := by
        funext F
        exact byteAt_some (i := 0) rfl F
      rw [hb]
      simp only
      unfold Sp.strings_IndexByte
      show (bif decide (0 ≤ Lib.indexByte (bs [32, 9, 10, 13]).data.toList (ci c).toNat.toUInt8) then _ else _) = _
      rw [blank_index]
      cases blank c with
      | true =>
        rw [cond_true, cond_true, show IntKind.wrap .i64 ((i : Int) + 1) = ((i + 1 : Nat) : Int) by rw [wrap_i64 (by omega)]; omega]
        rw [ih (i + 1) n m (by omega) (by omega) (by omega) (by omega)]
        congr 2
        omega
      | false => simp

theorem skip_eq (l : List UInt8) (i : Nat) (hi : i ≤ l.length) (hl : l.length ≤ 16777216) (γ : Type) (K : ByteArray → Int → Option γ) :
    Sp.lex_scanner_skip (mk l) (i : Int) γ K = K (mk l) ((i + skipN (l.drop i).length (l.drop i) : Nat) : Int) := by
  unfold Sp.lex_scanner_skip Sp.B_lex_scanner_skip
  rw [skip_loop l (by omega) _ _ (l.length - i) i fuel (l.drop i).length hi (Nat.le_refl _) (by unfold fuel; omega) (by rw [List.length_drop]; omega)]
  simp [Ex.isExit]

/-! ### numbers -/
def numG : Int → List UInt8 → Int × Bool
  | a, [] => (a, true)
  | a, c :: r => cond (digit c) (cond (decide (9007199254740991 < 10 * a + (ci c - 48))) (10 * a + (ci c - 48), false) (numG (10 * a + (ci c - 48)) r)) (a, false)

theorem digit_bounds {c : UInt8} (h : digit c = true) : 48 ≤ ci c ∧ ci c ≤ 57 := by
  unfold digit digitI at h
  simp only [Bool.and_eq_true, decide_eq_true_eq] at h
  exact h
theorem wrap_u8 {n : Int} (h : 0 ≤ n ∧ n ≤ 255) : IntKind.wrap .u8 n = n := by
  rw [IntKind.wrap_u8]
  omega

theorem num_loop (w : List UInt8) (hw : w.length ≤ 4611686018427387904) (b0 : Int) (b1 : ByteArray) (b2 b3 a0 a3 : Int) (s : ByteArray) (p : Int) (γ : Type) (K : Int → ByteArray → Int → Int → Bool → ByteArray → Int → Option γ) :
    ∀ (d i n : Nat) (acc : Int), w.length = i + d → d < n → 0 ≤ acc → acc ≤ 9007199254740991 →
      (Sp.lex_scanner_number_L0 n (w.length : Int) false (i : Int) b0 b1 b2 b3 a0 (mk w) acc a3 s p γ fun (z7 : Ex) (z8 : Bool) (z9 z10 : Int) (z11 : ByteArray) (z12 z13 z14 : Int) (z15 : ByteArray) (z16 z17 : Int) (z18 : ByteArray) (z19 : Int) =>
        bif Ex.isExit z7 0 then K z14 z15 z16 z17 true z18 z19 else bif Ex.isRet z7 then K z10 z11 z12 z13 z8 z18 z19 else none) = K a0 (mk w) (numG acc (w.drop i)).1 a3 (numG acc (w.drop i)).2 s p := by
  intro d
  induction d with
  | zero =>
    intro i n acc hi hn h0 h1
    obtain ⟨n, rfl⟩ : ∃ m, n = m + 1 := ⟨n - 1, by omega⟩
    have : w.drop i = [] := List.drop_eq_nil_of_le (by omega)
    rw [this]
    unfold Sp.lex_scanner_number_L0 Sp.B_lex_scanner_number_L0
    rw [decide_eq_false (by omega)]
    simp [Ex.isExit, numG]
  | succ d ih =>
    intro i n acc hi hn h0 h1
    obtain ⟨n, rfl⟩ : ∃ m, n = m + 1 := ⟨n - 1, by omega⟩
    obtain ⟨c, hc, hd⟩ := drop_cons (l := w) (i := i) (by omega)
    unfold Sp.lex_scanner_number_L0 Sp.B_lex_scanner_number_L0
    rw [decide_eq_true (by omega), cond_true, byteAt_some hc, digit_eq, hd]
    show (bif !digit c then _ else _) = _
    cases hD : digit c with
    | false => simp [Ex.isExit, Ex.isRet, numG, hD]
    | true =>
      have hb := digit_bounds hD
      simp only [Bool.not_true, cond_false]
      rw [byteAt_some hc]
      show (bif decide (9007199254740991 < IntKind.wrap .i64 (IntKind.wrap .i64 (10 * acc) + IntKind.wrap .i64 (IntKind.wrap .u8 (ci c - 48)))) then _ else _) = _
      have hv : IntKind.wrap .i64 (IntKind.wrap .i64 (10 * acc) + IntKind.wrap .i64 (IntKind.wrap .u8 (ci c - 48))) = 10 * acc + (ci c - 48) := by
        rw [wrap_u8 (by omega), wrap_i64 (n := ci c - 48) (by omega), wrap_i64 (n := 10 * acc) (by omega), wrap_i64 (by omega)]
      rw [hv]
      rw [numG, hD, cond_true]
      cases ho : decide (9007199254740991 < 10 * acc + (ci c - 48)) with
      | true => simp [Ex.isExit, Ex.isRet]
      | false =>
        simp only [decide_eq_false_iff_not] at ho
        rw [cond_false, cond_false, show IntKind.wrap .i64 ((i : Int) + 1) = ((i + 1 : Nat) : Int) by rw [wrap_i64 (by omega)]; omega]
        exact ih (i + 1) n _ (by omega) (by omega) (by omega) (by omega)

theorem number_eq (l : List UInt8) (i : Nat) (hi : i ≤ l.length) (hl : l.length ≤ 16777216) (γ : Type) (K : Int → ByteArray → Int → Int → Bool → ByteArray → Int → Option γ) :
    Sp.lex_scanner_number (mk l) (i : Int) γ K = K 3 (mk ((l.drop i).take (runN (l.drop i)))) (numG 0 ((l.drop i).take (runN (l.drop i)))).1 i (numG 0 ((l.drop i).take (runN (l.drop i)))).2 (mk l) ((i + runN (l.drop i) : Nat) : Int) := by
  unfold Sp.lex_scanner_number Sp.B_lex_scanner_number
  rw [run_eq l i hi hl]
  have h1 := runN_le (l.drop i)
  rw [List.length_drop] at h1
  have hw : ((l.drop i).take (runN (l.drop i))).length = runN (l.drop i) := by rw [List.length_take, List.length_drop]; omega
  have := num_loop ((l.drop i).take (runN (l.drop i))) (by omega) 0 (bs []) 0 0 3 (i : Int) (mk l) ((i + runN (l.drop i) : Nat) : Int) γ K ((l.drop i).take (runN (l.drop i))).length 0 fuel 0 (by omega) (by unfold fuel; omega) (by omega) (by omega)
  rw [List.drop_zero] at this
  rw [size_mk]
  exact this

/-! ### words -/
def keyWords : List (List UInt8) := [[65, 76, 76], [65, 78, 68], [65, 78, 84, 73], [65, 83], [66, 89], [67, 79, 85, 78, 84], [68, 69, 83, 67], [68, 73, 83, 84, 73, 78, 67, 84], [70, 65, 76, 83, 69], [70, 82, 79, 77], [71, 82, 79, 85, 80], [73, 83],
  [74, 79, 73, 78], [76, 69, 70, 84], [76, 73, 77, 73, 84], [77, 65, 88], [77, 73, 78], [78, 79, 84], [78, 85, 76, 76], [79, 78], [79, 82], [79, 82, 68, 69, 82], [83, 69, 76, 69, 67, 84], [83, 69, 77, 73], [83, 85, 77], [84, 82, 85, 69], [85, 78, 73, 79, 78], [87, 72, 69, 82, 69]]

theorem keys_eq (γ : Type) (K : List (List Dat) → Option γ) : Sp.lex_Keys γ K = K (keyWords.map fun x => [.str (mk x)]) := by
  kernel_rfl

def findN (w : List UInt8) : List (List UInt8) → Option Nat
  | [] => none
  | x :: r => cond (decide (w = x)) (some 0) ((findN w r).map (· + 1))

theorem findN_isSome (w : List UInt8) : ∀ ws, (findN w ws).isSome = decide (w ∈ ws)
  | [] => by simp [findN]
  | x :: r => by
    unfold findN
    by_cases h : w = x
    · simp [h]
    · simp [h, findN_isSome w r]

theorem index_loop (ws : List (List UInt8)) (w : List UInt8) (hl : ws.length ≤ 16777216) (v : Int) (γ : Type) (K : Ex → Int → Int → Option γ) : ∀ (d i n : Nat), ws.length = i + d → d < n →
    Sp.slices_Index_string_string_L0 n (ws.map fun x => [.str (mk x)]) (mk w) (ws.length : Int) v (i : Int) γ K = match findN w (ws.drop i) with
      | some k => K .ret ((i + k : Nat) : Int) ((i + k : Nat) : Int)
      | none => K (.exit 0) v (ws.length : Int) := by
  intro d
  induction d with
  | zero =>
    intro i n hi hn
    obtain ⟨n, rfl⟩ : ∃ m, n = m + 1 := ⟨n - 1, by omega⟩
    have : ws.drop i = [] := List.drop_eq_nil_of_le (by omega)
    rw [this]
    unfold Sp.slices_Index_string_string_L0 Sp.B_slices_Index_string_string_L0
    rw [decide_eq_false (by omega)]
    simp only [cond_false, findN]
    rw [show (i : Int) = (ws.length : Int) by omega]
  | succ d ih =>
    intro i n hi hn
    obtain ⟨n, rfl⟩ : ∃ m, n = m + 1 := ⟨n - 1, by omega⟩
    have hlt : i < ws.length := by omega
    have hd : ws.drop i = ws[i] :: ws.drop (i + 1) := List.drop_eq_getElem_cons hlt
    have he : (ws.map fun x => ([.str (mk x)] : List Dat))[i]? = some [.str (mk ws[i])] := by rw [List.getElem?_map, List.getElem?_eq_getElem hlt]; rfl
    unfold Sp.slices_Index_string_string_L0 Sp.B_slices_Index_string_string_L0
    rw [decide_eq_true (by omega), cond_true, elemAt_some he]
    rw [hd, findN]
    show (bif decide (mk w = mk ws[i]) then K .ret (i : Int) (i : Int) else _) = _
    by_cases hx : w = ws[i]
    · rw [decide_eq_true (by rw [hx]), decide_eq_true hx]
      simp
    · rw [decide_eq_false (by simpa using hx), decide_eq_false hx, cond_false, cond_false, show IntKind.wrap .i64 ((i : Int) + 1) = ((i + 1 : Nat) : Int) by rw [wrap_i64 (by omega)]; omega, ih (i + 1) n (by omega) (by omega)]
      cases findN w (ws.drop (i + 1)) with
      | none => rfl
      | some k => simp only [Option.map_some]; rw [show i + 1 + k = i + (k + 1) by omega]

theorem contains_eq (ws : List (List UInt8)) (w : List UInt8) (hl : ws.length ≤ 16777216) (γ : Type) (K : Bool → Option γ) : Sp.slices_Contains_string_string (ws.map fun x => [.str (mk x)]) (mk w) γ K = K (decide (w ∈ ws)) := by
  unfold Sp.slices_Contains_string_string Sp.B_slices_Contains_string_string Sp.slices_Index_string_string Sp.B_slices_Index_string_string
  rw [List.length_map]
  have := index_loop ws w hl 0 γ (fun (z4 : Ex) (z5 z6 : Int) => bif Ex.isExit z4 0 then (fun z4 => K (decide ((0 : Int) ≤ z4))) (-1) else bif Ex.isRet z4 then (fun z4 => K (decide ((0 : Int) ≤ z4))) z5 else none) ws.length 0 fuel (by omega) (by unfold fuel; omega)
  rw [List.drop_zero] at this
  refine Eq.trans this ?_
  have h := findN_isSome w ws
  cases hf : findN w ws with
  | none =>
    rw [hf] at h
    rw [← h]
    rfl
  | some k =>
    rw [hf] at h
    rw [← h]
    simp [Ex.isExit, Ex.isRet]

theorem key_eq (w : List UInt8) (γ : Type) (K : Bool → Option γ) : Sp.lex_Key (mk w) γ K = K (decide (w ∈ keyWords)) := by
  unfold Sp.lex_Key Sp.B_lex_Key
  rw [keys_eq]
  exact contains_eq keyWords w (by decide) γ K

theorem word_eq (l : List UInt8) (i : Nat) (hi : i ≤ l.length) (hl : l.length ≤ 16777216) (γ : Type) (K : Int → ByteArray → Int → Int → Bool → ByteArray → Int → Option γ) :
    Sp.lex_scanner_word (mk l) (i : Int) γ K = K (cond (decide ((l.drop i).take (runN (l.drop i)) ∈ keyWords)) 2 1) (mk ((l.drop i).take (runN (l.drop i)))) 0 i (decide (((l.drop i).take (runN (l.drop i))).length ≤ 24)) (mk l) ((i + runN (l.drop i) : Nat) : Int) := by
  unfold Sp.lex_scanner_word Sp.B_lex_scanner_word
  rw [run_eq l i hi hl, key_eq]
  have : decide (Int.ofNat (mk ((l.drop i).take (runN (l.drop i)))).size ≤ 24) = decide (((l.drop i).take (runN (l.drop i))).length ≤ 24) := by
    rw [size_mk]; apply decide_eq_decide.2; simp only [Int.ofNat_eq_natCast]; omega
  rw [this]
  cases decide ((l.drop i).take (runN (l.drop i)) ∈ keyWords) <;> rfl
end Go.Proofs.YtffhgjoemimmnaaDoor

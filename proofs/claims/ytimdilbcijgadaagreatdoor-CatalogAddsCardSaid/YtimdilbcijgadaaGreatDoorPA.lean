/- Names, and values, in plain Lean. -/
import Derived.Test.YtimdilbcijgadaaGreatDoorK3B
import Derived.Test.YtimdilbcijgadaaGreatDoorAevD
import Derived.Test.YtimdilbcijgadaaGreatDoorAevE
import Derived.Lib.SplitLaws
set_option linter.unusedVariables false
set_option linter.unusedSimpArgs false
namespace Go.Proofs.YtimdilbcijgadaaGreatDoor
open Go Go.Aev Go.RowKit Go.Sort

/-- a byte as the number that Go sees -/
abbrev ci (c : UInt8) : Int := Int.ofNat (BitVec.toFin (UInt8.toBitVec c)).1
def lowI (v : Int) : Int := IntKind.wrap IntKind.u8 (Int.ofNat (BitVec.toFin (BitVec.ofInt (IntKind.bits IntKind.u8) v ||| BitVec.ofInt (IntKind.bits IntKind.u8) 32)).1)
def letterI (v : Int) : Bool := (decide (97 ≤ lowI v) && decide (lowI v ≤ 122)) || decide (v = 95)
def digitI (v : Int) : Bool := decide (48 ≤ v) && decide (v ≤ 57)
def letter (c : UInt8) : Bool := letterI (ci c)
def digit (c : UInt8) : Bool := digitI (ci c)
def isW (c : UInt8) : Bool := letter c || digit c

theorem letter_eq (v : Int) (γ : Type) (K : Bool → Option γ) : Sp.lex_letter v γ K = K (letterI v) := by
  show (bif decide (97 ≤ lowI v) then bif decide (lowI v ≤ 122) then K true else K (decide (v = 95)) else K (decide (v = 95))) = K (letterI v)
  unfold letterI
  cases decide (97 ≤ lowI v) <;> cases decide (lowI v ≤ 122) <;> rfl
theorem digit_eq (v : Int) (γ : Type) (K : Bool → Option γ) : Sp.lex_digit v γ K = K (digitI v) := by
  unfold Sp.lex_digit Sp.B_lex_digit digitI
  cases decide (48 ≤ v) <;> simp
theorem left_eq (b : ByteArray) (n : Int) (γ : Type) (K : Bool → ByteArray → Int → Option γ) : Sp.lex_scanner_left b n γ K = K (decide (n < (b.size : Int))) b n := rfl

theorem drop_cons {l : List UInt8} {i : Nat} (h : i < l.length) : ∃ c, l[i]? = some c ∧ l.drop i = c :: l.drop (i + 1) := by
  refine ⟨l[i], List.getElem?_eq_getElem h, ?_⟩
  exact List.drop_eq_getElem_cons h

/-! ### runs -/
def runN (l : List UInt8) : Nat := (l.takeWhile isW).length
theorem runN_le (l : List UInt8) : runN l ≤ l.length := (List.takeWhile_prefix _).length_le

theorem run_loop (from_ : Int) (γ : Type) (K : Ex → ByteArray → Int → Option γ) (l : List UInt8) (hl : l.length ≤ 9223372036854775807) : ∀ (d i n : Nat), l.length = i + d → d < n → Sp.lex_scanner_run_L0 n from_ (mk l) (i : Int) γ K = K (Ex.exit 0) (mk l) ((i + runN (l.drop i) : Nat) : Int) := by
  intro d
  induction d with
  | zero =>
    intro i n hi hn
    obtain ⟨n, rfl⟩ : ∃ m, n = m + 1 := ⟨n - 1, by omega⟩
    have : l.drop i = [] := List.drop_eq_nil_of_le (by omega)
    rw [this]
    unfold Sp.lex_scanner_run_L0 Sp.B_lex_scanner_run_L0
    rw [left_eq, size_mk, decide_eq_false (by omega)]
    simp [runN]
  | succ d ih =>
    intro i n hi hn
    obtain ⟨n, rfl⟩ : ∃ m, n = m + 1 := ⟨n - 1, by omega⟩
    obtain ⟨c, hc, hd⟩ := drop_cons (l := l) (i := i) (by omega)
    unfold Sp.lex_scanner_run_L0 Sp.B_lex_scanner_run_L0
    rw [left_eq, size_mk, decide_eq_true (by omega), cond_true, byteAt_some hc, letter_eq]
    have hnext : IntKind.wrap .i64 ((i : Int) + 1) = ((i + 1 : Nat) : Int) := by rw [wrap_i64 (by omega)]; omega
    rw [hd, hnext]
    have hrec := ih (i + 1) n (by omega) (by omega)
    unfold runN
    rw [List.takeWhile_cons]
    cases hL : letterI (ci c) with
    | true =>
      rw [cond_true, hrec]
      have : isW c = true := by show (letterI (ci c) || digitI (ci c)) = true; rw [hL]; rfl
      rw [if_pos this, List.length_cons]
      unfold runN
      congr 2
      omega
    | false =>
      rw [cond_false, byteAt_some hc, digit_eq]
      cases hD : digitI (ci c) with
      | true =>
        rw [cond_true, hrec]
        have : isW c = true := by show (letterI (ci c) || digitI (ci c)) = true; rw [hL, hD]; rfl
        rw [if_pos this, List.length_cons]
        unfold runN
        congr 2
        omega
      | false =>
        have : isW c = false := by show (letterI (ci c) || digitI (ci c)) = false; rw [hL, hD]; rfl
        rw [cond_false, this]
        simp

theorem run_eq (l : List UInt8) (i : Nat) (hi : i ≤ l.length) (hl : l.length ≤ 9223372036854775807) (γ : Type) (K : ByteArray → ByteArray → Int → Option γ) :
    Sp.lex_scanner_run (mk l) (i : Int) γ K = K (mk ((l.drop i).take (runN (l.drop i)))) (mk l) ((i + runN (l.drop i) : Nat) : Int) := by
  unfold Sp.lex_scanner_run Sp.B_lex_scanner_run
  rw [run_loop _ _ _ l (by omega) (l.length - i) i fuel (by omega) (by unfold fuel; omega)]
  have h1 := runN_le (l.drop i)
  rw [List.length_drop] at h1
  simp only [Ex.isExit, beq_self_eq_true, cond_true, size_mk]
  rw [decide_eq_true (show (0 : Int) ≤ (i : Int) by omega), decide_eq_true (show (i : Int) ≤ ((i + runN (l.drop i) : Nat) : Int) by omega), decide_eq_true (show ((i + runN (l.drop i) : Nat) : Int) ≤ Int.ofNat l.length by simp only [Int.ofNat_eq_natCast]; omega)]
  simp only [Bool.and_true, Bool.true_and, cond_true, extract_mk, Int.toNat_natCast]
  rw [List.drop_take, show i + runN (l.drop i) - i = runN (l.drop i) by omega]

def keyWords : List (List UInt8) := [[65, 76, 76], [65, 78, 68], [65, 78, 84, 73], [65, 83], [66, 89], [67, 79, 85, 78, 84], [68, 69, 83, 67], [68, 73, 83, 84, 73, 78, 67, 84], [70, 65, 76, 83, 69], [70, 82, 79, 77], [71, 82, 79, 85, 80], [73, 83],
  [74, 79, 73, 78], [76, 69, 70, 84], [76, 73, 77, 73, 84], [77, 65, 88], [77, 73, 78], [78, 79, 84], [78, 85, 76, 76], [79, 78], [79, 82], [79, 82, 68, 69, 82], [83, 69, 76, 69, 67, 84], [83, 69, 77, 73], [83, 85, 77], [84, 82, 85, 69], [85, 78, 73, 79, 78], [87, 72, 69, 82, 69]]

theorem keys_eq (γ : Type) (K : List (List Dat) → Option γ) : Sp.lex_Keys γ K = K (keyWords.map fun x => [.str (mk x)]) := by
  kernel_rfl

def findN (w : List UInt8) : List (List UInt8) → Option Nat
  | [] => none
  | x :: r => cond (decide (w = x)) (some 0) ((findN w r).map (· + 1))

theorem findN_isSome (w : List UInt8) : ∀ ws, (findN w ws).isSome = decide (w ∈ ws)
  | [] => by simp [findN]
  | x :: r => by
    unfold findN
    by_cases h : w = x
    · simp [h]
    · simp [h, findN_isSome w r]

theorem index_loop (ws : List (List UInt8)) (w : List UInt8) (hl : ws.length ≤ 9223372036854775807) (v : Int) (γ : Type) (K : Ex → Int → Int → Option γ) : ∀ (d i n : Nat), ws.length = i + d → d < n →
    Sp.slices_Index_string_string_L0 n (ws.map fun x => [.str (mk x)]) (mk w) (ws.length : Int) v (i : Int) γ K = match findN w (ws.drop i) with
      | some k => K .ret ((i + k : Nat) : Int) ((i + k : Nat) : Int)
      | none => K (.exit 0) v (ws.length : Int) := by
  intro d
  induction d with
  | zero =>
    intro i n hi hn
    obtain ⟨n, rfl⟩ : ∃ m, n = m + 1 := ⟨n - 1, by omega⟩
    have : ws.drop i = [] := List.drop_eq_nil_of_le (by omega)
    rw [this]
    unfold Sp.slices_Index_string_string_L0 Sp.B_slices_Index_string_string_L0
    rw [decide_eq_false (by omega)]
    simp only [cond_false, findN]
    rw [show (i : Int) = (ws.length : Int) by omega]
  | succ d ih =>
    intro i n hi hn
    obtain ⟨n, rfl⟩ : ∃ m, n = m + 1 := ⟨n - 1, by omega⟩
    have hlt : i < ws.length := by omega
    have hd : ws.drop i = ws[i] :: ws.drop (i + 1) := List.drop_eq_getElem_cons hlt
    have he : (ws.map fun x => ([.str (mk x)] : List Dat))[i]? = some [.str (mk ws[i])] := by rw [List.getElem?_map, List.getElem?_eq_getElem hlt]; rfl
    unfold Sp.slices_Index_string_string_L0 Sp.B_slices_Index_string_string_L0
    rw [decide_eq_true (by omega), cond_true, elemAt_some he]
    rw [hd, findN]
    show (bif decide (mk w = mk ws[i]) then K .ret (i : Int) (i : Int) else _) = _
    by_cases hx : w = ws[i]
    · rw [decide_eq_true (by rw [hx]), decide_eq_true hx]
      simp
    · rw [decide_eq_false (by simpa using hx), decide_eq_false hx, cond_false, cond_false, show IntKind.wrap .i64 ((i : Int) + 1) = ((i + 1 : Nat) : Int) by rw [wrap_i64 (by omega)]; omega, ih (i + 1) n (by omega) (by omega)]
      cases findN w (ws.drop (i + 1)) with
      | none => rfl
      | some k => simp only [Option.map_some]; rw [show i + 1 + k = i + (k + 1) by omega]

theorem contains_eq (ws : List (List UInt8)) (w : List UInt8) (hl : ws.length ≤ 9223372036854775807) (γ : Type) (K : Bool → Option γ) : Sp.slices_Contains_string_string (ws.map fun x => [.str (mk x)]) (mk w) γ K = K (decide (w ∈ ws)) := by
  unfold Sp.slices_Contains_string_string Sp.B_slices_Contains_string_string Sp.slices_Index_string_string Sp.B_slices_Index_string_string
  rw [List.length_map]
  have := index_loop ws w hl 0 γ (fun (z4 : Ex) (z5 z6 : Int) => bif Ex.isExit z4 0 then (fun z4 => K (decide ((0 : Int) ≤ z4))) (-1) else bif Ex.isRet z4 then (fun z4 => K (decide ((0 : Int) ≤ z4))) z5 else none) ws.length 0 fuel (by omega) (by unfold fuel; omega)
  rw [List.drop_zero] at this
  refine Eq.trans this ?_
  have h := findN_isSome w ws
  cases hf : findN w ws with
  | none =>
    rw [hf] at h
    rw [← h]
    rfl
  | some k =>
    rw [hf] at h
    rw [← h]
    simp [Ex.isExit, Ex.isRet]

theorem key_eq (w : List UInt8) (γ : Type) (K : Bool → Option γ) : Sp.lex_Key (mk w) γ K = K (decide (w ∈ keyWords)) := by
  unfold Sp.lex_Key Sp.B_lex_Key
  rw [keys_eq]
  exact contains_eq keyWords w (by decide) γ K

theorem value_Check_eq (k n : Int) (s : ByteArray) (γ : Type) (K : Int → Option γ) : Sp.value_Check k n s γ K = K (cond (V.ok k n s) 0 10) := by
  unfold Sp.value_Check Sp.B_value_Check V.ok
  have hf : (Int.fdiv n 2 = 0) ↔ (n = 0 ∨ n = 1) := by
    rw [Int.fdiv_eq_ediv_of_nonneg _ (by decide)]
    omega
  by_cases h0 : k = 0
  · subst h0; by_cases h1 : n = 0 <;> by_cases h2 : s = bs [] <;> simp [h1, h2]
  by_cases h1 : k = 1
  · subst h1
    by_cases h1 : n = 0
    · subst h1; by_cases h2 : s = bs [] <;> simp [hf, h2]
    · by_cases h3 : n = 1
      · subst h3; by_cases h2 : s = bs [] <;> simp [hf, h2]
      · simp [hf, h1, h3]
  by_cases h2 : k = 2
  · subst h2
    by_cases h1 : -9007199254740991 ≤ n <;> by_cases h3 : n ≤ 9007199254740991 <;> by_cases h2 : s = bs [] <;> simp [h1, h2, h3]
  by_cases h3 : k = 3
  · subst h3
    by_cases h1 : n = 0 <;> by_cases h3 : (s.size : Int) ≤ 64 <;> simp [h1, h3]
  simp [h0, h1, h2, h3]
theorem ref01_Check_eq (k n : Int) (s : ByteArray) (γ : Type) (K : Bool → Option γ) : Sp.ref01_Check k n s γ K = K (V.ok k n s) := by
  unfold Sp.ref01_Check Sp.B_ref01_Check V.ok
  by_cases h0 : k = 0
  · subst h0; by_cases h1 : n = 0 <;> by_cases h2 : s = bs [] <;> simp [h1, h2]
  by_cases h1 : k = 1
  · subst h1
    by_cases h1 : n = 0
    · subst h1; by_cases h2 : s = bs [] <;> simp [h2]
    · by_cases h3 : n = 1
      · subst h3; by_cases h2 : s = bs [] <;> simp [h2]
      · simp [h1, h3]
  by_cases h2 : k = 2
  · subst h2
    by_cases h1 : -9007199254740991 ≤ n <;> by_cases h3 : n ≤ 9007199254740991 <;> by_cases h2 : s = bs [] <;> simp [h1, h2, h3]
  by_cases h3 : k = 3
  · subst h3
    by_cases h1 : n = 0 <;> by_cases h3 : (s.size : Int) ≤ 64 <;> simp [h1, h3]
  simp [h0, h1, h2, h3]
end Go.Proofs.YtimdilbcijgadaaGreatDoor

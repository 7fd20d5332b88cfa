/- Names, and values, in plain Lean. -/
import Derived.Test.YthbieolladlihaaGreatDoorK3B
import Derived.Test.YthbieolladlihaaGreatDoorAevD
import Derived.Lib.SplitLaws
set_option linter.unusedVariables false
set_option linter.unusedSimpArgs false
namespace Go.Proofs.YthbieolladlihaaGreatDoor
open Go Go.Aev Go.RowKit Go.Sort

/-- a byte as the number that Go sees -/
abbrev ci (c : UInt8) : Int := Int.ofNat (BitVec.toFin (UInt8.toBitVec c)).1
def lowI (v : Int) : Int := IntKind.wrap IntKind.u8 (Int.ofNat (BitVec.toFin (BitVec.ofInt (IntKind.bits IntKind.u8) v ||| BitVec.ofInt (IntKind.bits IntKind.u8) 32)).1)
def letterI (v : Int) : Bool := (decide (97 ≤ lowI v) && decide (lowI v ≤ 122)) || decide (v = 95)
def digitI (v : Int) : Bool := decide (48 ≤ v) && decide (v ≤ 57)
def letter (c : UInt8) : Bool := letterI (ci c)
def digit (c : UInt8) : Bool := digitI (ci c)
def isW (c : UInt8) : Bool := letter c || digit c

theorem letter_eq (v : Int) (γ : Type) (K : Bool → Option γ) : Sp.lex_letter v γ K = K (letterI v) := by
  show (bif decide (97 ≤ lowI v) then bif decide (lowI v ≤ 122) then K true else K (decide (v = 95)) else K (decide (v = 95))) = K (letterI v)
  unfold letterI
  cases decide (97 ≤ lowI v) <;> cases decide (lowI v ≤ 122) <;> rfl
theorem digit_eq (v : Int) (γ : Type) (K : Bool → Option γ) : Sp.lex_digit v γ K = K (digitI v) := by
  unfold Sp.lex_digit Sp.B_lex_digit digitI
  cases decide (48 ≤ v) <;> simp
theorem left_eq (b : ByteArray) (n : Int) (γ : Type) (K : Bool → ByteArray → Int → Option γ) : Sp.lex_scanner_left b n γ K = K (decide (n < (b.size : Int))) b n := rfl

theorem drop_cons {l : List UInt8} {i : Nat} (h : i < l.length) : ∃ c, l[i]? = some c ∧ l.drop i = c :: l.drop (i + 1) := by
  refine ⟨l[i], List.getElem?_eq_getElem h, ?_⟩
  exact List.drop_eq_getElem_cons h

/-! ### runs -/
def runN (l : List UInt8) : Nat := (l.takeWhile isW).length
theorem runN_le (l : List UInt8) : runN l ≤ l.length := (List.takeWhile_prefix _).length_le

theorem run_loop (from_ : Int) (γ : Type) (K : Ex → ByteArray → Int → Option γ) (l : List UInt8) (hl : l.length ≤ 4611686018427387904) : ∀ (d i n : Nat), l.length = i + d → d < n → Sp.lex_scanner_run_L0 n from_ (mk l) (i : Int) γ K = K (Ex.exit 0) (mk l) ((i + runN (l.drop i) : Nat) : Int) := by
  intro d
  induction d with
  | zero =>
    intro i n hi hn
    obtain ⟨n, rfl⟩ : ∃ m, n = m + 1 := ⟨n - 1, by omega⟩
    have : l.drop i = [] := List.drop_eq_nil_of_le (by omega)
    rw [this]
    unfold Sp.lex_scanner_run_L0 Sp.B_lex_scanner_run_L0
    rw [left_eq, size_mk, decide_eq_false (by omega)]
    simp [runN]
  | succ d ih =>
    intro i n hi hn
    obtain ⟨n, rfl⟩ : ∃ m, n = m + 1 := ⟨n - 1, by omega⟩
    obtain ⟨c, hc, hd⟩ := drop_cons (l := l) (i := i) (by omega)
    unfold Sp.lex_scanner_run_L0 Sp.B_lex_scanner_run_L0
    rw [left_eq, size_mk, decide_eq_true (by omega), cond_true, byteAt_some hc, letter_eq]
    have hnext : IntKind.wrap .i64 ((i : Int) + 1) = ((i + 1 : Nat) : Int) := by rw [wrap_i64 (by omega)]; omega
    rw [hd, hnext]
    have hrec := ih (i + 1) n (by omega) (by omega)
    unfold runN
    rw [List.takeWhile_cons]
    cases hL : letterI (ci c) with
    | true =>
      rw [cond_true, hrec]
      have : isW c = true := by show (letterI (ci c) || digitI (ci c)) = true; rw [hL]; rfl
      rw [if_pos this, List.length_cons]
      unfold runN
      congr 2
      omega
    | false =>
      rw [cond_false, byteAt_some hc, digit_eq]
      cases hD : digitI (ci c) with
      | true =>
        rw [cond_true, hrec]
        have : isW c = true := by show (letterI (ci c) || digitI (ci c)) = true; rw [hL, hD]; rfl
        rw [if_pos this, List.length_cons]
        unfold runN
        congr 2
        omega
      | false =>
        have : isW c = false := by show (letterI (ci c) || digitI (ci c)) = false; rw [hL, hD]; rfl
        rw [cond_false, this]
        simp

theorem run_eq (l : List UInt8) (i : Nat) (hi : i ≤ l.length) (hl : l.length ≤ 16777216) (γ : Type) (K : ByteArray → ByteArray → Int → Option γ) :
    Sp.lex_scanner_run (mk l) (i : Int) γ K = K (mk ((l.drop i).take (runN (l.drop i)))) (mk l) ((i + runN (l.drop i) : Nat) : Int) := by
  unfold Sp.lex_scanner_run Sp.B_lex_scanner_run
  rw [run_loop _ _ _ l (by omega) (l.length - i) i fuel (by omega) (by unfold fuel; omega)]
  have h1 := runN_le (l.drop i)
  rw [List.length_drop] at h1
  simp only [Ex.isExit, beq_self_eq_true, cond_true, size_mk]
  rw [decide_eq_true (show (0 : Int) ≤ (i : Int) by omega), decide_eq_true (show (i : Int) ≤ ((i + runN (l.drop i) : Nat) : Int) by omega), decide_eq_true (show ((i + runN (l.drop i) : Nat) : Int) ≤ Int.ofNat l.length by simp only [Int.ofNat_eq_natCast]; omega)]
  simp only [Bool.and_true, Bool.true_and, cond_true, extract_mk, Int.toNat_natCast]
  rw [List.drop_take, show i + runN (l.drop i) - i = runN (l.drop i) by omega]

def keyWords : List (List UInt8) := [[65, 76, 76], [65, 78, 68], [65, 78, 84, 73], [65, 83], [66, 89], [67, 79, 85, 78, 84], [68, 69, 83, 67], [68, 73, 83, 84, 73, 78, 67, 84], [70, 65, 76, 83, 69], [70, 82, 79, 77], [71, 82, 79, 85, 80], [73, 83],
  [74, 79, 73, 78], [76, 69, 70, 84], [76, 73, 77, 73, 84], [77, 65, 88], [77, 73, 78], [78, 79, 84], [78, 85, 76, 76], [79, 78], [79, 82], [79, 82, 68, 69, 82], [83, 69, 76, 69, 67, 84], [83, 69, 77, 73], [83, 85, 77], [84, 82, 85, 69], [85, 78, 73, 79, 78], [87, 72, 69, 82, 69]]

theorem keys_eq (γ : Type) (K : List (List Dat) → Option γ) : Sp.lex_Keys γ K = K (keyWords.map fun x => [.str (mk x)]) := by
  kernel_rfl

def findN (w : List UInt8) : List (List UInt8) → Option Nat
  | [] => none
  | x :: r => cond (decide (w = x)) (some 0) ((findN w r).map (· + 1))

theorem findN_isSome (w : List UInt8) : ∀ ws, (findN w ws).isSome = decide (w ∈ ws)
  | [] => by simp [findN]
  | x :: r => by
    unfold findN
    by_cases h : w = x
    · simp [h]
    · simp [h, findN_isSome w r]

theorem index_loop (ws : List (List UInt8)) (w : List UInt8) (hl : ws.length ≤ 16777216) (v : Int) (γ : Type) (K : Ex → Int → Int → Option γ) : ∀ (d i n : Nat), ws.length = i + d → d < n →
    Sp.slices_Index_string_string_L0 n (ws.map fun x => [.str (mk x)]) (mk w) (ws.length : Int) v (i : Int) γ K = match findN w (ws.drop i) with
      | some k => K .ret ((i + k : Nat) : Int) ((i + k : Nat) : Int)
      | none => K (.exit 0) v (ws.length : Int) := by
  intro d
  induction d with
  | zero =>
    intro i n hi hn
    obtain ⟨n, rfl⟩ : ∃ m, n = m + 1 := ⟨n - 1, by omega⟩
    have : ws.drop i = [] := List.drop_eq_nil_of_le (by omega)
    rw [this]
    unfold Sp.slices_Index_string_string_L0 Sp.B_slices_Index_string_string_L0
    rw [decide_eq_false (by omega)]
    simp only [cond_false, findN]
    rw [show (i : Int) = (ws.length : Int) by omega]
  | succ d ih =>
    intro i n hi hn
    obtain ⟨n, rfl⟩ : ∃ m, n = m + 1 := ⟨n - 1, by omega⟩
    have hlt : i < ws.length := by omega
    have hd : ws.drop i = ws[i] :: ws.drop (i + 1) := List.drop_eq_getElem_cons hlt
    have he : (ws.map fun x => ([.str (mk x)] : List Dat))[i]? = some [.str (mk ws[i])] := by rw [List.getElem?_map, List.getElem?_eq_getElem hlt]; rfl
    unfold Sp.slices_Index_string_string_L0 Sp.B_slices_Index_string_string_L0
    rw [decide_eq_true (by omega), cond_true, elemAt_some he]
    rw [hd, findN]
    show (bif decide (mk w = mk ws[i]) then K .ret (i : Int) (i : Int) else _) = _
    by_cases hx : w = ws[i]
    · rw [decide_eq_true (by rw [hx]), decide_eq_true hx]
      simp
    · rw [decide_eq_false (by simpa using hx), decide_eq_false hx, cond_false, cond_false, show IntKind.wrap .i64 ((i : Int) + 1) = ((i + 1 : Nat) : Int) by rw [wrap_i64 (by omega)]; omega, ih (i + 1) n (by omega) (by omega)]
      cases findN w (ws.drop (i + 1)) with
      | none => rfl
      | some k => simp only [Option.map_some]; rw [show i + 1 + k = i + (k + 1) by omega]

theorem contains_eq (ws : List (List UInt8)) (w : List UInt8) (hl : ws.length ≤ 16777216) (γ : Type) (K : Bool → Option γ) : Sp.slices_Contains_string_string (ws.map fun x => [.str (mk x)]) (mk w) γ K = K (decide (w ∈ ws)) := by
  unfold Sp.slices_Contains_string_string Sp.B_slices_Contains_string_string Sp.slices_Index_string_string Sp.B_slices_Index_string_string
  rw [List.length_map]
  have := index_loop ws w hl 0 γ (fun (z4 : Ex) (z5 z6 : Int) => bif Ex.isExit z4 0 then (fun z4 => K (decide ((0 : Int) ≤ z4))) (-1) else bif Ex.isRet z4 then (fun z4 => K (decide ((0 : Int) ≤ z4))) z5 else none) ws.length 0 fuel (by omega) (by unfold fuel; omega)
  rw [List.drop_zero] at this
  refine Eq.trans this ?_
  have h := findN_isSome w ws
  cases hf : findN w ws with
  | none =>
    rw [hf] at h
    rw [← h]
    rfl
  | some k =>
    rw [hf] at h
    rw [← h]
    simp [Ex.isExit, Ex.isRet]

theorem key_eq (w : List UInt8) (γ : Type) (K : Bool → Option γ) : Sp.lex_Key (mk w) γ K = K (decide (w ∈ keyWords)) := by
  unfold Sp.lex_Key Sp.B_lex_Key
  rw [keys_eq]
  exact contains_eq keyWords w (by decide) γ K

namespace V
/-- may a value be? -/
def ok (k n : Int) (s : ByteArray) : Bool :=
  (decide (k = 0) && decide (n = 0) && decide (s = bs [])) || (decide (k = 1) && (decide (n = 0) || decide (n = 1)) && decide (s = bs [])) ||
  (decide (k = 2) && decide (-9007199254740991 ≤ n) && decide (n ≤ 9007199254740991) && decide (s = bs [])) || (decide (k = 3) && decide (n = 0) && decide ((s.size : Int) ≤ 64))
def same (k n : Int) (s : ByteArray) (k' n' : Int) (s' : ByteArray) : Bool := decide (k = k') && (decide (n = n') && (decide (s = s') && true))
end V
theorem value_Check_eq (k n : Int) (s : ByteArray) (γ : Type) (K : Int → Option γ) : Sp.value_Check k n s γ K = K (cond (V.ok k n s) 0 10) := by
  unfold Sp.value_Check Sp.B_value_Check V.ok
  have hf : (Int.fdiv n 2 = 0) ↔ (n = 0 ∨ n = 1) := by
    rw [Int.fdiv_eq_ediv_of_nonneg _ (by decide)]
    omega
  by_cases h0 : k = 0
  · subst h0; by_cases h1 : n = 0 <;> by_cases h2 : s = bs [] <;> simp [h1, h2]
  by_cases h1 : k = 1
  · subst h1
    by_cases h1 : n = 0
    · subst h1; by_cases h2 : s = bs [] <;> simp [hf, h2]
    · by_cases h3 : n = 1
      · subst h3; by_cases h2 : s = bs [] <;> simp [hf, h2]
      · simp [hf, h1, h3]
  by_cases h2 : k = 2
  · subst h2
    by_cases h1 : -9007199254740991 ≤ n <;> by_cases h3 : n ≤ 9007199254740991 <;> by_cases h2 : s = bs [] <;> simp [h1, h2, h3]
  by_cases h3 : k = 3
  · subst h3
    by_cases h1 : n = 0 <;> by_cases h3 : (s.size : Int) ≤ 64 <;> simp [h1, h3]
  simp [h0, h1, h2, h3]
theorem ref01_Check_eq (k n : Int) (s : ByteArray) (γ : Type) (K : Bool → Option γ) : Sp.ref01_Check k n s γ K = K (V.ok k n s) := by
  unfold Sp.ref01_Check Sp.B_ref01_Check V.ok
  by_cases h0 : k = 0
  · subst h0; by_cases h1 : n = 0 <;> by_cases h2 : s = bs [] <;> simp [h1, h2]
  by_cases h1 : k = 1
  · subst h1
    by_cases h1 : n = 0
    · subst h1; by_cases h2 : s = bs [] <;> simp [h2]
    · by_cases h3 : n = 1
      · subst h3; by_cases h2 : s = bs [] <;> simp [h2]
      · simp [h1, h3]
  by_cases h2 : k = 2
  · subst h2
    by_cases h1 : -9007199254740991 ≤ n <;> by_cases h3 : n ≤ 9007199254740991 <;> by_cases h2 : s = bs [] <;> simp [h1, h2, h3]
  by_cases h3 : k = 3
  · subst h3
    by_cases h1 : n = 0 <;> by_cases h3 : (s.size : Int) ≤ 64 <;> simp [h1, h3]
  simp [h0, h1, h2, h3]
/-- each quote twice -/
def dbl : List UInt8 → List UInt8
  | [] => []
  | c :: l => if c = 39 then 39 :: 39 :: dbl l else c :: dbl l

theorem dbl_length : ∀ l, (dbl l).length ≤ 2 * l.length
  | [] => by simp [dbl]
  | c :: l => by
    have := dbl_length l
    unfold dbl
    split <;> simp <;> omega
theorem dbl_append : ∀ a b, dbl (a ++ b) = dbl a ++ dbl b
  | [], b => rfl
  | c :: a, b => by
    simp only [List.cons_append, dbl, dbl_append a b]
    split <;> simp

theorem replaceK_dbl : ∀ l : List UInt8, Lib.replaceK [39] [39, 39] (Lib.count l [39]) l = dbl l
  | [] => by
    have : Lib.count ([] : List UInt8) [39] = 0 := by rw [Lib.count_one]; rfl
    rw [this]; rfl
  | c :: l => by
    have ih := replaceK_dbl l
    by_cases hc : c = 39
    · subst hc
      rw [Lib.count_cons_eq, Nat.add_comm]
      have h0 : Lib.index (39 :: l) [39] = ((0 : Nat) : Int) := by simp [Lib.index]
      rw [Lib.replaceK_hit _ _ _ _ 0 h0]
      simp only [List.take_zero, List.nil_append, List.length_singleton, Nat.zero_add, List.drop_one, List.tail_cons, ih, dbl]
      rfl
    · rw [Lib.count_cons_ne c 39 l hc]
      have hne : List.isPrefixOf [39] (c :: l) = false := by
        simp [List.isPrefixOf]
        exact fun h => hc h.symm
      cases hn : Lib.count l [39] with
      | zero =>
        rw [hn] at ih
        show c :: l = dbl (c :: l)
        simp only [dbl, if_neg hc]
        rw [← ih]
        rfl
      | succ k =>
        obtain ⟨i, hi⟩ := Lib.index_of_count (s := l) (old := [39]) (by omega)
        have hi' : Lib.index (c :: l) [39] = ((i + 1 : Nat) : Int) := by
          rw [Lib.index, hne]
          rw [hi]
          have : ((i : Int) == -1) = false := by
            rw [beq_eq_false_iff_ne]; omega
          simp [this]
        rw [Lib.replaceK_hit _ _ _ _ (i + 1) hi']
        rw [hn, Lib.replaceK_hit _ _ _ _ i hi] at ih
        simp only [dbl, if_neg hc, ← ih]
        simp
theorem replaceAll_dbl (l : List UInt8) : Lib.replaceAll l [39] [39, 39] = dbl l := by
  unfold Lib.replaceAll Lib.replace Lib.replaceNum
  rw [if_neg (by decide), if_pos (Or.inl (by decide))]
  exact replaceK_dbl l

/-- the loop of the reference's Show -/
theorem show_loop : ∀ (r : List UInt8) (n : Nat) (s t : List UInt8) (i : Nat) (x y : Int) (γ : Type) (K : Ex → ByteArray → Int → Int → Int → ByteArray → Option γ), t.drop i = r → r.length < n → t.length ≤ 5000 → s.length ≤ 1 + 2 * i → i ≤ t.length →
    Sp.ref01_Show_L1 n (mk s) (i : Int) x y (mk t) γ K = K (.exit 1) (mk (s ++ dbl r)) (t.length : Int) x y (mk t)
  | r, 0, s, t, i, x, y, γ, K, hr, hn, _, _, _ => by omega
  | r, n + 1, s, t, i, x, y, γ, K, hr, hn, ht, hs, hi => by
    unfold Sp.ref01_Show_L1 Sp.B_ref01_Show_L1
    have hlen : r.length = t.length - i := by rw [← hr]; simp
    cases r with
    | nil =>
      have : i = t.length := by simp at hlen; omega
      subst this
      simp [dbl]
    | cons c r =>
      have hlt : i < t.length := by simp at hlen; omega
      have hget : t[i]? = some c := by
        have := congrArg (fun l => l[0]?) hr
        simpa using this
      have hw : IntKind.wrap .i64 ((i : Int) + 1) = ((i + 1 : Nat) : Int) := by rw [wrap_i64 (by omega)]; rfl
      have hex : (mk t).extract i (i + 1) = mk [c] := by
        rw [extract_mk]
        congr 1
        rw [List.drop_take, hr]
        simp
      have hr' : t.drop (i + 1) = r := by rw [← List.drop_drop, hr]; rfl
      simp only [hw, Int.toNat_natCast, hex, byteAt_some hget, size_mk, mk_append, bs_mk, List.map_cons, List.map_nil]
      have h1 : ((i : Int) < Int.ofNat t.length) := by simpa using hlt
      have h2 : (((i + 1 : Nat) : Int) ≤ Int.ofNat t.length) := by
        show ((i + 1 : Nat) : Int) ≤ (t.length : Int)
        omega
      have h3 : (i : Int) ≤ ((i + 1 : Nat) : Int) := by omega
      have h4 : (0 : Int) ≤ (i : Int) := by omega
      have h5 : s.length + [c].length ≤ 1152921504606846976 := by simp; omega
      have h6 : (s ++ [c]).length + 1 ≤ 1152921504606846976 := by simp; omega
      simp only [h1, h2, h3, h4, h5, h6, decide_true, Bool.and_true, cond_true]
      by_cases hc : c = 39
      · subst hc
        have ih := show_loop r n (s ++ [39] ++ [39]) t (i + 1) x y γ K hr' (by simp at hn; omega) ht (by simp; omega) (by omega)
        have he : (decide (Int.ofNat (BitVec.toFin (UInt8.toBitVec 39)).1 = 39)) = true := by decide
        rw [he, cond_true]
        refine ih.trans ?_
        simp [dbl]
      · have ih := show_loop r n (s ++ [c]) t (i + 1) x y γ K hr' (by simp at hn; omega) ht (by simp; omega) (by omega)
        have he : (decide (Int.ofNat (BitVec.toFin (UInt8.toBitVec c)).1 = 39)) = false := by
          rw [decide_eq_false_iff_not]
          intro h
          apply hc
          have : c.toNat = 39 := by
            have h2 : ((c.toNat : Nat) : Int) = 39 := h
            omega
          exact UInt8.toNat_inj.1 this
        rw [he, cond_false]
        refine ih.trans ?_
        simp [dbl, hc]

theorem digit_at {d : Nat} (h : d < 10) : ((mk ([48, 49, 50, 51, 52, 53, 54, 55, 56, 57].map UInt8.ofNat)).extract d (d + 1)) = mk [UInt8.ofNat (48 + d)] := by
  have : ∀ d : Fin 10, ((mk ([48, 49, 50, 51, 52, 53, 54, 55, 56, 57].map UInt8.ofNat)).extract d.val (d.val + 1)) = mk [UInt8.ofNat (48 + d.val)] := by
    intro d
    rw [extract_mk]
    congr 1
    revert d
    decide
  exact this ⟨d, h⟩

theorem dec_big {u : Nat} (h : ¬ u < 10) : Lib.decDigits u = Lib.decDigits (u / 10) ++ [UInt8.ofNat (48 + u % 10)] := by
  conv => lhs; rw [Lib.decDigits, dif_neg h]
theorem digits_round (n u : Nat) (s : List UInt8) (γ : Type) (K : Ex → Int → ByteArray → Option γ) (hu : u < 10 ^ 18) (hs : s.length ≤ 100) (hor : 0 < u ∨ s = []) :
    Sp.ref01_Digits_L0 (n + 1) (u : Int) (mk s) γ K = Sp.ref01_Digits_L0 n ((u / 10 : Nat) : Int) (mk (UInt8.ofNat (48 + u % 10) :: s)) γ K := by
  rw [Sp.ref01_Digits_L0]
  unfold Sp.B_ref01_Digits_L0
  have hm : Int.tmod (u : Int) 10 = ((u % 10 : Nat) : Int) := by
    rw [Int.tmod_eq_emod_of_nonneg (by omega)]; rfl
  have hd : Int.tdiv (u : Int) 10 = ((u / 10 : Nat) : Int) := by
    rw [Int.tdiv_eq_ediv_of_nonneg (by omega)]; rfl
  have hlt : u % 10 < 10 := Nat.mod_lt _ (by decide)
  have hw : IntKind.wrap .i64 (((u % 10 : Nat) : Int) + 1) = ((u % 10 + 1 : Nat) : Int) := by rw [wrap_i64 (by omega)]; rfl
  have hw2 : IntKind.wrap .i64 ((u / 10 : Nat) : Int) = ((u / 10 : Nat) : Int) := by rw [wrap_i64 (by omega)]
  have h1 : (0 : Int) ≤ ((u % 10 : Nat) : Int) := by omega
  have h2 : ((u % 10 : Nat) : Int) ≤ ((u % 10 + 1 : Nat) : Int) := by omega
  have h3 : ((u % 10 + 1 : Nat) : Int) ≤ 10 := by omega
  simp only [hm, hd, hw, hw2, Int.toNat_natCast, bs_mk, digit_at hlt, size_mk, mk_append, h1, h2, h3, decide_true, Bool.and_true, cond_true]
  have h4 : [UInt8.ofNat (48 + u % 10)].length + s.length ≤ 1152921504606846976 := by simp; omega
  simp only [h4, decide_true, cond_true, List.cons_append, List.nil_append]
  rcases hor with h | h
  · have : (0 : Int) < (u : Int) := by omega
    simp only [this, decide_true, cond_true]
  · subst h
    by_cases h0 : (0 : Int) < (u : Int)
    · simp only [h0, decide_true, cond_true]
    · simp [h0]

theorem digits_loop : ∀ (k : Nat) (n : Nat) (u : Nat) (s : List UInt8) (γ : Type) (K : Ex → Int → ByteArray → Option γ), u < 10 ^ k → k < n → k ≤ 18 → s.length + k ≤ 100 → s ≠ [] →
    Sp.ref01_Digits_L0 n (u : Int) (mk s) γ K = K (.exit 0) 0 (mk ((if u = 0 then [] else Lib.decDigits u) ++ s))
  | k, 0, u, s, γ, K, _, h, _, _, _ => by omega
  | k, n + 1, u, s, γ, K, hu, hn, hk, hs, hne => by
    by_cases h0 : u = 0
    · subst h0
      rw [Sp.ref01_Digits_L0]
      unfold Sp.B_ref01_Digits_L0
      have : mk s ≠ bs [] := by
        rw [bs_mk]
        intro h
        exact hne (mk_inj.1 h)
      simp [this]
    · cases k with
      | zero => simp at hu; omega
      | succ k =>
        have hp : (10 : Nat) ^ (k + 1) ≤ 10 ^ 18 := Nat.pow_le_pow_right (by decide) hk
        rw [digits_round n u s γ K (by omega) (by omega) (Or.inl (by omega))]
        rw [digits_loop k n (u / 10) _ γ K (by rw [Nat.pow_succ] at hu; omega) (by omega) (by omega) (by simp; omega) (by simp)]
        rw [if_neg h0]
        by_cases h10 : u < 10
        · have : u / 10 = 0 := by omega
          have h11 : u % 10 = u := by omega
          simp [this, h11, Lib.decDigits_one h10]
        · have : u / 10 ≠ 0 := by omega
          rw [if_neg this, dec_big h10]
          simp

theorem digits_nat (f u : Nat) (hf : 20 < f) (hu : u < 10 ^ 17) (γ : Type) (K : Ex → Int → ByteArray → Option γ) :
    Sp.ref01_Digits_L0 f (u : Int) (bs []) γ K = K (.exit 0) 0 (mk (Lib.decDigits u)) := by
  obtain ⟨f, rfl⟩ : ∃ g, f = g + 1 := ⟨f - 1, by omega⟩
  have e : bs [] = mk [] := rfl
  rw [e, digits_round f u [] γ K (by omega) (by simp) (Or.inr rfl)]
  rw [digits_loop 17 f (u / 10) _ γ K (by omega) (by omega) (by omega) (by simp) (by simp)]
  by_cases h10 : u < 10
  · have : u / 10 = 0 := by omega
    have h11 : u % 10 = u := by omega
    simp [this, h11, Lib.decDigits_one h10]
  · have : u / 10 ≠ 0 := by omega
    rw [if_neg this, dec_big h10]

theorem decDigits_short (u : Nat) (hu : u < 10 ^ 17) : (Lib.decDigits u).length ≤ 100 := by
  have : ∀ (k u : Nat), u < 10 ^ k → (Lib.decDigits u).length ≤ k + 1 := by
    intro k
    induction k with
    | zero =>
      intro u hu
      have : u < 10 := by simp at hu; omega
      rw [Lib.decDigits, dif_pos this]; simp
    | succ k ih =>
      intro u hu
      rw [Lib.decDigits]
      split
      · simp
      · have := ih (u / 10) (by rw [Nat.pow_succ] at hu; omega)
        simp; omega
  have := this 17 u hu
  omega

theorem ref01_Digits_eq (n : Int) (hn : -9007199254740991 ≤ n ∧ n ≤ 9007199254740991) (γ : Type) (K : ByteArray → Option γ) : Sp.ref01_Digits fuel n γ K = K (mk (Lib.itoa n)) := by
  have hb : ∀ (f : Nat) (u : Nat) (γ : Type) (K : ByteArray → Option γ), u < 10 ^ 17 → Sp.ref01_Digits (f + 1) (u : Int) γ K = K (mk (Lib.decDigits u)) := by
    intro f u γ K hu
    rw [Sp.ref01_Digits]
    unfold Sp.B_ref01_Digits
    have h0 : ¬ ((u : Int) < 0) := by omega
    have := digits_nat fuel u (by decide) hu γ
    simp only [h0, decide_false, cond_false]
    rw [this]
    simp [Ex.isExit]
  have hf : fuel = 18446744073709551614 + 1 + 1 := rfl
  by_cases h : n < 0
  · rw [hf, Sp.ref01_Digits]
    unfold Sp.B_ref01_Digits
    have hw : IntKind.wrap .i64 (0 - n) = ((n.natAbs : Nat) : Int) := by rw [wrap_i64 (by omega)]; omega
    simp only [h, decide_true, cond_true, hw]
    have h17 : n.natAbs < 10 ^ 17 := by omega
    rw [hb _ _ _ _ h17]
    have hl := decDigits_short n.natAbs h17
    have h2 : 1 + (mk (Lib.decDigits n.natAbs)).size ≤ 1152921504606846976 := by rw [size_mk]; omega
    simp only [h2, decide_true, cond_true]
    rw [show bs [45] ++ mk (Lib.decDigits n.natAbs) = mk (Lib.itoa n) by rw [bs_mk, mk_append]; simp [Lib.itoa, h]]
  · obtain ⟨u, rfl⟩ : ∃ u : Nat, n = (u : Int) := ⟨n.toNat, by omega⟩
    rw [hf, hb _ _ _ _ (by omega)]
    have hi : Lib.itoa (u : Int) = Lib.decDigits u := by
      unfold Lib.itoa
      rw [if_neg h]
      rfl
    rw [hi]


/-- the text of a value -/
def showV (k n : Int) (s : List UInt8) : List UInt8 :=
  if V.ok k n (mk s) = true then (if k = 0 then [78, 85, 76, 76] else if k = 1 then (if n = 1 then [84, 82, 85, 69] else [70, 65, 76, 83, 69]) else if k = 2 then Lib.itoa n else [39] ++ dbl s ++ [39]) else [63]

end Go.Proofs.YthbieolladlihaaGreatDoor

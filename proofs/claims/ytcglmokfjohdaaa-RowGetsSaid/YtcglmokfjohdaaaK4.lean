/- The plain laws of rows, I: how they stand. -/
import Derived.Test.YtcglmokfjohdaaaK3
import Derived.Test.YtcglmokfjohdaaaAevD
set_option linter.unusedVariables false
set_option linter.unusedSimpArgs false
namespace Go.Proofs.Ytcglmokfjohdaaa
open Go Go.Aev Go.RowKit

theorem value_Check_eq (k n : Int) (s : ByteArray) (γ : Type) (K : Int → Option γ) : Sp.value_Check k n s γ K = K (cond (V.ok k n s) 0 10) := by
  unfold Sp.value_Check Sp.B_value_Check V.ok
  have hf : (Int.fdiv n 2 = 0) ↔ (n = 0 ∨ n = 1) := by
    rw [Int.fdiv_eq_ediv_of_nonneg _ (by decide)]
    omega
  by_cases h0 : k = 0
  · subst h0; by_cases h1 : n = 0 <;> by_cases h2 : s = bs [] <;> simp [h1, h2]
  by_cases h1 : k = 1
  · subst h1
    by_cases h1 : n = 0
    · subst h1; by_cases h2 : s = bs [] <;> simp [hf, h2]
    · by_cases h3 : n = 1
      · subst h3; by_cases h2 : s = bs [] <;> simp [hf, h2]
      · simp [hf, h1, h3]
  by_cases h2 : k = 2
  · subst h2
    by_cases h1 : -9007199254740991 ≤ n <;> by_cases h3 : n ≤ 9007199254740991 <;> by_cases h2 : s = bs [] <;> simp [h1, h2, h3]
  by_cases h3 : k = 3
  · subst h3
    by_cases h1 : n = 0 <;> by_cases h3 : (s.size : Int) ≤ 64 <;> simp [h1, h3]
  simp [h0, h1, h2, h3]
theorem ref01_Check_eq (k n : Int) (s : ByteArray) (γ : Type) (K : Bool → Option γ) : Sp.ref01_Check k n s γ K = K (V.ok k n s) := by
  unfold Sp.ref01_Check Sp.B_ref01_Check V.ok
  by_cases h0 : k = 0
  · subst h0; by_cases h1 : n = 0 <;> by_cases h2 : s = bs [] <;> simp [h1, h2]
  by_cases h1 : k = 1
  · subst h1
    by_cases h1 : n = 0
    · subst h1; by_cases h2 : s = bs [] <;> simp [h2]
    · by_cases h3 : n = 1
      · subst h3; by_cases h2 : s = bs [] <;> simp [h2]
      · simp [h1, h3]
  by_cases h2 : k = 2
  · subst h2
    by_cases h1 : -9007199254740991 ≤ n <;> by_cases h3 : n ≤ 9007199254740991 <;> by_cases h2 : s = bs [] <;> simp [h1, h2, h3]
  by_cases h3 : k = 3
  · subst h3
    by_cases h1 : n = 0 <;> by_cases h3 : (s.size : Int) ≤ 64 <;> simp [h1, h3]
  simp [h0, h1, h2, h3]
theorem cmp_Compare_int_eq (a b : Int) (γ : Type) (K : Int → Option γ) : Sp.cmp_Compare_int a b γ K = K (V.ci a b) := by
  unfold Sp.cmp_Compare_int Sp.B_cmp_Compare_int Sp.cmp_isNaN_int Sp.B_cmp_isNaN_int V.ci
  by_cases h1 : a < b <;> by_cases h2 : b < a <;> simp [h1, h2]
theorem cmp_Compare_string_eq (a b : ByteArray) (γ : Type) (K : Int → Option γ) : Sp.cmp_Compare_string a b γ K = K (V.cs a b) := by
  unfold Sp.cmp_Compare_string Sp.B_cmp_Compare_string Sp.cmp_isNaN_string Sp.B_cmp_isNaN_string V.cs
  rw [show Op.bytesLess a.data.toList b.data.toList = decide (a.data.toList < b.data.toList) from bytesLess_eq _ _]
  by_cases h2 : a = b
  · subst h2
    simp [List.lt_irrefl]
  · by_cases h1 : a.data.toList < b.data.toList <;> simp [h1, h2]
theorem cmp_Or_three (a b c : Int) (γ : Type) (K : Int → Option γ) : Sp.cmp_Or_int [[.int .i64 a], [.int .i64 b], [.int .i64 c]] γ K = K (if a = 0 then (if b = 0 then c else b) else a) := by
  have h : Sp.cmp_Or_int [[.int .i64 a], [.int .i64 b], [.int .i64 c]] γ K = cond (!decide (a = 0)) (K a) (cond (!decide (b = 0)) (K b) (cond (!decide (c = 0)) (K c) (K 0))) := by kernel_rfl
  rw [h]
  by_cases h1 : a = 0 <;> by_cases h2 : b = 0 <;> by_cases h3 : c = 0 <;> simp [h1, h2, h3]
theorem value_Compare_eq (k n : Int) (s : ByteArray) (k' n' : Int) (s' : ByteArray) (γ : Type) (K : Int → Option γ) : Sp.value_Compare k n s k' n' s' γ K = K (V.cmp k n s k' n' s') := by
  unfold Sp.value_Compare Sp.B_value_Compare V.cmp
  rw [cmp_Compare_int_eq, cmp_Compare_int_eq, cmp_Compare_string_eq, cmp_Or_three]
theorem ref01_Compare_eq (k n : Int) (s : ByteArray) (k' n' : Int) (s' : ByteArray) (γ : Type) (K : Int → Option γ) : Sp.ref01_Compare k n s k' n' s' γ K = K (V.cmp k n s k' n' s') := by
  unfold Sp.ref01_Compare Sp.B_ref01_Compare V.cmp
  rw [show Op.bytesLess s.data.toList s'.data.toList = decide (s.data.toList < s'.data.toList) from bytesLess_eq _ _]
  rcases V.ci_cases k k' with ⟨h1, _, h2⟩ | ⟨h1, _, h2⟩ | ⟨h1, _, h2⟩
  · simp [h1, h2]
  · subst h2
    rcases V.ci_cases n n' with ⟨h3, _, h4⟩ | ⟨h3, _, h4⟩ | ⟨h3, _, h4⟩
    · simp [h1, h3, h4]
    · subst h4
      rcases V.cs_cases s s' with ⟨h5, _, h6, h7⟩ | ⟨h5, h6⟩ | ⟨h5, h6, h7, h8⟩
      · simp [h1, h3, h5, h7]
      · subst h6; simp [h1, h3, h5, List.lt_irrefl]
      · have h9 : ¬ s.data.toList < s'.data.toList := List.lt_asymm h8
        simp [h1, h3, h5, h7, h9]
    · have h5 : ¬ n < n' := by omega
      have h6 : n ≠ n' := by omega
      simp [h1, h3, h5, h6]
  · have h5 : ¬ k < k' := by omega
    have h6 : k ≠ k' := by omega
    simp [h1, h5, h6]
theorem compare_loop (l m : List Vl) (hl : l.length ≤ 16777216) (γ : Type) (K : Int → Option γ) : ∀ (d i n : Nat), l.length = i + d → d < n → i ≤ m.length →
    Sp.slices_CompareFunc_api_Value_api_Value_api_Value_api_Value_L0 n (l.map Vl.enc) (m.map Vl.enc) (l.map Vl.enc) (l.length : Int) 0 (i : Int) γ
      (fun z3 z4 z5 => bif Ex.isExit z3 0 then bif decide (Int.ofNat l.length < Int.ofNat m.length) then K (-1) else K 0 else bif Ex.isRet z3 then K z4 else none) = K (R.cmp (l.drop i) (m.drop i)) := by
  intro d
  induction d with
  | zero =>
    intro i n hi hn him
    obtain ⟨n, rfl⟩ : ∃ k, n = k + 1 := ⟨n - 1, by omega⟩
    unfold Sp.slices_CompareFunc_api_Value_api_Value_api_Value_api_Value_L0 Sp.B_slices_CompareFunc_api_Value_api_Value_api_Value_api_Value_L0
    rw [decide_eq_false (show ¬ (i : Int) < (l.length : Int) by omega), cond_false, List.drop_eq_nil_of_le (show l.length ≤ i by omega)]
    simp only [Ex.isExit, beq_self_eq_true, cond_true]
    by_cases h : l.length < m.length
    · rw [decide_eq_true (show Int.ofNat l.length < Int.ofNat m.length by simp only [Int.ofNat_eq_natCast]; omega), cond_true]
      obtain ⟨c, _, hd⟩ := dropv_cons (show i < m.length by omega)
      rw [hd]; rfl
    · rw [decide_eq_false (show ¬ Int.ofNat l.length < Int.ofNat m.length by simp only [Int.ofNat_eq_natCast]; omega), cond_false, List.drop_eq_nil_of_le (show m.length ≤ i by omega)]
      rfl
  | succ d ih =>
    intro i n hi hn him
    obtain ⟨n, rfl⟩ : ∃ k, n = k + 1 := ⟨n - 1, by omega⟩
    obtain ⟨a, ha, hda⟩ := dropv_cons (show i < l.length by omega)
    show Sp.B_slices_CompareFunc_api_Value_api_Value_api_Value_api_Value_L0 (Sp.slices_CompareFunc_api_Value_api_Value_api_Value_api_Value_L0 n) _ _ _ _ _ _ _ _ _ = _
    unfold Sp.B_slices_CompareFunc_api_Value_api_Value_api_Value_api_Value_L0
    rw [decide_eq_true (show (i : Int) < (l.length : Int) by omega), cond_true, elemAt_enc ha, vl_cells, List.length_map]
    rw [hda]
    by_cases h : i < m.length
    · obtain ⟨b, hb, hdb⟩ := dropv_cons h
      rw [decide_eq_false (show ¬ Int.ofNat m.length ≤ (i : Int) by simp only [Int.ofNat_eq_natCast]; omega), cond_false, elemAt_enc hb, vl_cells, value_Compare_eq, hdb]
      have hnext : IntKind.wrap .i64 ((i : Int) + 1) = ((i + 1 : Nat) : Int) := by rw [wrap_i64 (by omega)]; omega
      rw [hnext]
      show (bif !decide (Vl.cmp a b = 0) then _ else _) = K (if Vl.cmp a b = 0 then _ else _)
      by_cases hc : Vl.cmp a b = 0
      · rw [decide_eq_true hc, if_pos hc, Bool.not_true, cond_false]
        exact ih (i + 1) n (by omega) (by omega) (by omega)
      · rw [decide_eq_false hc, if_neg hc, Bool.not_false, cond_true]
        rfl
    · rw [decide_eq_true (show Int.ofNat m.length ≤ (i : Int) by simp only [Int.ofNat_eq_natCast]; omega), cond_true, List.drop_eq_nil_of_le (show m.length ≤ i by omega)]
      rfl

theorem row_Compare_eq (l m : List Vl) (hl : l.length ≤ 16777216) (γ : Type) (K : Int → Option γ) : Sp.row_Compare (l.map Vl.enc) (m.map Vl.enc) γ K = K (R.cmp l m) := by
  unfold Sp.row_Compare Sp.B_row_Compare Sp.slices_CompareFunc_api_Value_api_Value_api_Value_api_Value Sp.B_slices_CompareFunc_api_Value_api_Value_api_Value_api_Value
  rw [List.length_map, List.length_map]
  exact compare_loop l m hl γ K l.length 0 fuel (by omega) (by unfold fuel; omega) (Nat.zero_le _)


theorem cmp_Or_two (a b : Int) (γ : Type) (K : Int → Option γ) : Sp.cmp_Or_int [[.int .i64 a], [.int .i64 b]] γ K = K (if a = 0 then b else a) := by
  have h : Sp.cmp_Or_int [[.int .i64 a], [.int .i64 b]] γ K = cond (!decide (a = 0)) (K a) (cond (!decide (b = 0)) (K b) (K 0)) := by kernel_rfl
  rw [h]
  by_cases h1 : a = 0 <;> by_cases h2 : b = 0 <;> simp [h1, h2]

theorem elemAt_map {α β : Type} {f : α → List Dat} {l : List α} {i : Nat} {v : α} (h : l[i]? = some v) (F : List Dat → Option β) : elemAt (l.map f) (i : Int) F = F (f v) :=
  elemAt_some (by rw [List.getElem?_map, h]; rfl) F
theorem next_i {i : Nat} (h : i ≤ 1099511627776) : IntKind.wrap .i64 ((i : Int) + 1) = ((i + 1 : Nat) : Int) := by
  rw [wrap_i64 (by omega)]; omega
theorem lt_t {i n : Nat} (h : i < n) : decide ((i : Int) < Int.ofNat n) = true := decide_eq_true (by simp only [Int.ofNat_eq_natCast]; omega)
theorem lt_f {i n : Nat} (h : n ≤ i) : decide ((i : Int) < Int.ofNat n) = false := decide_eq_false (by simp only [Int.ofNat_eq_natCast]; omega)

theorem vl_s {β : Type} (v : Vl) (F : ByteArray → Option β) : (bif List.length v.enc == 3 then cellAt (List.drop 2 v.enc) 0 fun z6 => asStr z6 fun z7 => F z7 else none) = F v.s := rfl
theorem int_cell {β : Type} (c : Int) (F : Int → Option β) : (bif List.length [Dat.int IntKind.i64 c] == 1 then cellAt [Dat.int IntKind.i64 c] 0 fun z8 => Aev.asInt IntKind.i64 z8 fun z9 => F z9 else none) = F c := rfl
theorem bool_cell {β : Type} (c : Bool) (F : Bool → Option β) : (bif List.length [Dat.bool c] == 1 then cellAt [Dat.bool c] 0 fun z8 => Aev.asBool z8 fun z9 => F z9 else none) = F c := rfl
theorem sl_cell {β : Type} (c : List Vl) (F : List (List Dat) → Option β) : (bif List.length [R.enc c] == 1 then cellAt [R.enc c] 0 fun z8 => asSl z8 fun z9 => F z9 else none) = F (c.map Vl.enc) := rfl
theorem vl_eq (a b : Vl) : (decide (a.k = b.k) && (decide (a.n = b.n) && (decide (a.s = b.s) && true))) = decide (a = b) := by
  cases a; cases b
  simp [Bool.decide_and]

/-! ### large -/
def large (l : List Vl) : Bool := decide (100 < l.length) || l.any fun v => decide (200 < v.s.size)

theorem large_loop (l : List Vl) (hl : l.length ≤ 100) (γ : Type) (K : Bool → Option γ) : ∀ (d i n : Nat), l.length = i + d → d < n →
    Sp.law02_large_L0 n (l.map Vl.enc) false (i : Int) γ (fun z3 z4 z5 => bif Ex.isExit z3 0 then K false else bif Ex.isRet z3 then K z4 else none) = K ((l.drop i).any fun v => decide (200 < v.s.size)) := by
  intro d
  induction d with
  | zero =>
    intro i n hi hn
    obtain ⟨n, rfl⟩ : ∃ k, n = k + 1 := ⟨n - 1, by omega⟩
    unfold Sp.law02_large_L0 Sp.B_law02_large_L0
    rw [List.length_map, lt_f (by omega), List.drop_eq_nil_of_le (by omega)]
    rfl
  | succ d ih =>
    intro i n hi hn
    obtain ⟨n, rfl⟩ : ∃ k, n = k + 1 := ⟨n - 1, by omega⟩
    obtain ⟨a, ha, hda⟩ := dropv_cons (show i < l.length by omega)
    unfold Sp.law02_large_L0 Sp.B_law02_large_L0
    rw [List.length_map, lt_t (by omega), cond_true, elemAt_map ha, vl_s, hda, List.any_cons, next_i (by omega), ih (i + 1) n (by omega) (by omega)]
    by_cases h : 200 < a.s.size
    · rw [decide_eq_true (show (200 : Int) < Int.ofNat a.s.size by simp only [Int.ofNat_eq_natCast]; omega), decide_eq_true h]; rfl
    · rw [decide_eq_false (show ¬ (200 : Int) < Int.ofNat a.s.size by simp only [Int.ofNat_eq_natCast]; omega), decide_eq_false h]; rfl

theorem large_eq (l : List Vl) (γ : Type) (K : Bool → Option γ) : Sp.law02_large (l.map Vl.enc) γ K = K (large l) := by
  unfold Sp.law02_large Sp.B_law02_large large
  rw [List.length_map]
  by_cases h : 100 < l.length
  · rw [decide_eq_true (show (100 : Int) < Int.ofNat l.length by simp only [Int.ofNat_eq_natCast]; omega), decide_eq_true h]; rfl
  · rw [decide_eq_false (show ¬ (100 : Int) < Int.ofNat l.length by simp only [Int.ofNat_eq_natCast]; omega), decide_eq_false h, cond_false, Bool.false_or]
    exact large_loop l (by omega) γ K l.length 0 fuel (by omega) (by unfold fuel; omega)

theorem large_false {l : List Vl} (h : large l = false) : l.length ≤ 100 ∧ ∀ v ∈ l, v.s.size ≤ 200 := by
  simp only [large, Bool.or_eq_false_iff, decide_eq_false_iff_not, List.any_eq_false, decide_eq_true_eq] at h
  exact ⟨by omega, fun v hv => by have := h.2 v hv; omega⟩

/-! ### ref: how rows stand -/
theorem ref_compare_loop (l m : List Vl) (hl : l.length ≤ 16777216) (γ : Type) (K : Int → Option γ) : ∀ (d i n : Nat), l.length = i + d → d < n → i ≤ m.length →
    Sp.ref02_Compare_L0 n (l.map Vl.enc) (m.map Vl.enc) 0 (i : Int) γ
      (fun z4 z5 z6 => bif Ex.isExit z4 0 then bif decide (Int.ofNat l.length < Int.ofNat m.length) then K (-1) else bif decide (Int.ofNat m.length < Int.ofNat l.length) then K 1 else K 0 else bif Ex.isRet z4 then K z5 else none) = K (R.cmp (l.drop i) (m.drop i)) := by
  intro d
  induction d with
  | zero =>
    intro i n hi hn him
    obtain ⟨n, rfl⟩ : ∃ k, n = k + 1 := ⟨n - 1, by omega⟩
    unfold Sp.ref02_Compare_L0 Sp.B_ref02_Compare_L0
    rw [List.length_map, lt_f (by omega), cond_false, List.drop_eq_nil_of_le (show l.length ≤ i by omega)]
    simp only [Ex.isExit, beq_self_eq_true, cond_true]
    rw [decide_eq_false (show ¬ Int.ofNat m.length < Int.ofNat l.length by simp only [Int.ofNat_eq_natCast]; omega), cond_false]
    by_cases h : l.length < m.length
    · rw [decide_eq_true (show Int.ofNat l.length < Int.ofNat m.length by simp only [Int.ofNat_eq_natCast]; omega), cond_true]
      obtain ⟨c, _, hd⟩ := dropv_cons (show i < m.length by omega)
      rw [hd]; rfl
    · rw [decide_eq_false (show ¬ Int.ofNat l.length < Int.ofNat m.length by simp only [Int.ofNat_eq_natCast]; omega), cond_false, List.drop_eq_nil_of_le (show m.length ≤ i by omega)]
      rfl
  | succ d ih =>
    intro i n hi hn him
    obtain ⟨n, rfl⟩ : ∃ k, n = k + 1 := ⟨n - 1, by omega⟩
    obtain ⟨a, ha, hda⟩ := dropv_cons (show i < l.length by omega)
    unfold Sp.ref02_Compare_L0 Sp.B_ref02_Compare_L0
    rw [List.length_map, lt_t (by omega), cond_true, hda]
    by_cases h : i < m.length
    · obtain ⟨b, hb, hdb⟩ := dropv_cons h
      rw [List.length_map, lt_t h, cond_true, elemAt_enc ha, vl_cells, elemAt_enc hb, vl_cells, ref01_Compare_eq, hdb, next_i (by omega)]
      show (bif !decide (Vl.cmp a b = 0) then _ else _) = K (if Vl.cmp a b = 0 then _ else _)
      by_cases hc : Vl.cmp a b = 0
      · rw [decide_eq_true hc, if_pos hc, Bool.not_true, cond_false]
        exact ih (i + 1) n (by omega) (by omega) (by omega)
      · rw [decide_eq_false hc, if_neg hc, Bool.not_false, cond_true]
        rfl
    · rw [List.length_map, lt_f (by omega), cond_false, List.drop_eq_nil_of_le (show m.length ≤ i by omega)]
      simp only [Ex.isExit, beq_self_eq_true, cond_true]
      rw [decide_eq_false (show ¬ Int.ofNat l.length < Int.ofNat m.length by simp only [Int.ofNat_eq_natCast]; omega), cond_false,
        decide_eq_true (show Int.ofNat m.length < Int.ofNat l.length by simp only [Int.ofNat_eq_natCast]; omega), cond_true]
      rfl

theorem ref02_Compare_eq (l m : List Vl) (hl : l.length ≤ 16777216) (γ : Type) (K : Int → Option γ) : Sp.ref02_Compare (l.map Vl.enc) (m.map Vl.enc) γ K = K (R.cmp l m) := by
  unfold Sp.ref02_Compare Sp.B_ref02_Compare
  rw [List.length_map, List.length_map]
  exact ref_compare_loop l m hl γ K l.length 0 fuel (by omega) (by unfold fuel; omega) (Nat.zero_le _)

theorem R.cmp_zero (l m : List Vl) : decide (R.cmp l m = 0) = decide (l = m) := by
  rcases R.cmp_cases l m with ⟨h1, _, h3⟩ | ⟨h1, _, h3⟩ | ⟨h1, _, h3⟩
  · rw [h1, decide_eq_false h3]; rfl
  · rw [h1, decide_eq_true h3]; rfl
  · rw [h1, decide_eq_false h3]; rfl

theorem ref02_Same_eq (l m : List Vl) (hl : l.length ≤ 16777216) (γ : Type) (K : Bool → Option γ) : Sp.ref02_Same (l.map Vl.enc) (m.map Vl.enc) γ K = K (decide (l = m)) := by
  unfold Sp.ref02_Same Sp.B_ref02_Same
  rw [ref02_Compare_eq l m hl, R.cmp_zero]

/-! ### row.Same -/
theorem same_loop (l m : List Vl) (hl : l.length ≤ 16777216) (hlm : l.length = m.length) (γ : Type) (K : Bool → Option γ) : ∀ (d i n : Nat), l.length = i + d → d < n →
    Sp.slices_Equal_api_Value_api_Value_L0 n (l.map Vl.enc) (m.map Vl.enc) (Int.ofNat l.length) false (i : Int) γ (fun z4 z5 z6 => bif Ex.isExit z4 0 then K true else bif Ex.isRet z4 then K z5 else none) = K (decide (l.drop i = m.drop i)) := by
  intro d
  induction d with
  | zero =>
    intro i n hi hn
    obtain ⟨n, rfl⟩ : ∃ k, n = k + 1 := ⟨n - 1, by omega⟩
    unfold Sp.slices_Equal_api_Value_api_Value_L0 Sp.B_slices_Equal_api_Value_api_Value_L0
    rw [lt_f (by omega), List.drop_eq_nil_of_le (show l.length ≤ i by omega), List.drop_eq_nil_of_le (show m.length ≤ i by omega)]
    rfl
  | succ d ih =>
    intro i n hi hn
    obtain ⟨n, rfl⟩ : ∃ k, n = k + 1 := ⟨n - 1, by omega⟩
    obtain ⟨a, ha, hda⟩ := dropv_cons (show i < l.length by omega)
    obtain ⟨b, hb, hdb⟩ := dropv_cons (show i < m.length by omega)
    unfold Sp.slices_Equal_api_Value_api_Value_L0 Sp.B_slices_Equal_api_Value_api_Value_L0
    rw [lt_t (by omega), cond_true, elemAt_enc ha, vl_cells, elemAt_enc hb, vl_cells, vl_eq, hda, hdb, next_i (by omega), ih (i + 1) n (by omega) (by omega)]
    by_cases h : a = b
    · subst h
      rw [decide_eq_true (rfl : a = a), Bool.not_true, cond_false]
      simp
    · rw [decide_eq_false h, decide_eq_false (fun e => h (List.cons.inj e).1)]
      rfl

theorem row_Same_eq (l m : List Vl) (hl : l.length ≤ 16777216) (γ : Type) (K : Bool → Option γ) : Sp.row_Same (l.map Vl.enc) (m.map Vl.enc) γ K = K (decide (l = m)) := by
  unfold Sp.row_Same Sp.B_row_Same Sp.slices_Equal_api_Value_api_Value Sp.B_slices_Equal_api_Value_api_Value
  rw [List.length_map, List.length_map]
  by_cases h : l.length = m.length
  · rw [decide_eq_true (show Int.ofNat l.length = Int.ofNat m.length by simp only [Int.ofNat_eq_natCast]; omega), Bool.not_true, cond_false]
    exact same_loop l m hl h γ K l.length 0 fuel (by omega) (by unfold fuel; omega)
  · rw [decide_eq_false (show ¬ Int.ofNat l.length = Int.ofNat m.length by simp only [Int.ofNat_eq_natCast]; omega), Bool.not_false, cond_true, decide_eq_false (fun e => h (by rw [e]))]

/-! ### By -/
def V0 : Vl := ⟨0, 0, bs []⟩
def atV (l : List Vl) (c : Int) : Vl := if c < 0 then V0 else (l[c.toNat]?).getD V0

theorem at_get {β : Type} (l : List Vl) (c : Int) (F : Int → Int → ByteArray → Option β) (h0 : ¬ c < 0) (h1 : ¬ Int.ofNat (List.length (l.map Vl.enc)) ≤ c) :
    (elemAt (l.map Vl.enc) c fun z10 => bif List.length z10 == 3 then cellAt z10 0 fun z9 => Aev.asInt IntKind.i64 z9 fun z10' => cellAt z10 1 fun z11 => Aev.asInt IntKind.i64 z11 fun z12 => cellAt z10 2 fun z13 => asStr z13 fun z14 => F z10' z12 z14 else none) = F (atV l c).k (atV l c).n (atV l c).s := by
  obtain ⟨i, rfl⟩ : ∃ i : Nat, c = (i : Int) := ⟨c.toNat, by omega⟩
  rw [List.length_map] at h1
  simp only [Int.ofNat_eq_natCast] at h1
  obtain ⟨a, ha, _⟩ := dropv_cons (show i < l.length by omega)
  rw [elemAt_enc ha, vl_cells]
  have : atV l (i : Int) = a := by
    unfold atV
    rw [if_neg h0]
    simp [ha]
  rw [this]

theorem row_at_eq (l : List Vl) (c : Int) (γ : Type) (K : Int → Int → ByteArray → Option γ) : Sp.row_at (l.map Vl.enc) c γ K = K (atV l c).k (atV l c).n (atV l c).s := by
  unfold Sp.row_at Sp.B_row_at Sp.value_Null Sp.B_value_Null
  by_cases h0 : c < 0
  · rw [decide_eq_true h0, cond_true]; unfold atV; rw [if_pos h0]; rfl
  · rw [decide_eq_false h0, cond_false]
    by_cases h1 : Int.ofNat (List.length (l.map Vl.enc)) ≤ c
    · rw [decide_eq_true h1, cond_true]
      unfold atV
      rw [List.length_map] at h1
      simp only [Int.ofNat_eq_natCast] at h1
      rw [if_neg h0, List.getElem?_eq_none (by omega)]; rfl
    · rw [decide_eq_false h1, cond_false, at_get l c K h0 h1]

theorem ref02_at_eq (l : List Vl) (c : Int) (γ : Type) (K : Int → Int → ByteArray → Option γ) : Sp.ref02_at (l.map Vl.enc) c γ K = K (atV l c).k (atV l c).n (atV l c).s := by
  unfold Sp.ref02_at Sp.B_ref02_at
  by_cases h0 : c < 0
  · rw [decide_eq_true h0, cond_true]; unfold atV; rw [if_pos h0]; rfl
  · rw [decide_eq_false h0, cond_false]
    by_cases h1 : Int.ofNat (List.length (l.map Vl.enc)) ≤ c
    · rw [decide_eq_true h1, cond_true]
      unfold atV
      rw [List.length_map] at h1
      simp only [Int.ofNat_eq_natCast] at h1
      rw [if_neg h0, List.getElem?_eq_none (by omega)]; rfl
    · rw [decide_eq_false h1, cond_false, at_get l c K h0 h1]

def iEnc (c : Int) : List Dat := [.int .i64 c]
def bEnc (c : Bool) : List Dat := [.bool c]
def uEnc (c : UInt8) : List Dat := [.int .u8 c.toNat]
def lEnc (c : List Vl) : List Dat := [R.enc c]
theorem iEnc_cell {β : Type} (c : Int) (F : Int → Option β) : (bif List.length (iEnc c) == 1 then cellAt (iEnc c) 0 fun z8 => Aev.asInt IntKind.i64 z8 fun z9 => F z9 else none) = F c := rfl
theorem bEnc_cell {β : Type} (c : Bool) (F : Bool → Option β) : (bif List.length (bEnc c) == 1 then cellAt (bEnc c) 0 fun z8 => Aev.asBool z8 fun z9 => F z9 else none) = F c := rfl

/-- by places, from the i-th on -/
def turned (a b : List Vl) (c : Int) (d : Option Bool) : Int := if d = some true then 0 - Vl.cmp (atV a c) (atV b c) else Vl.cmp (atV a c) (atV b c)
def byV (a b : List Vl) : List Int → List Bool → Int
  | [], _ => 0
  | c :: cs, down => if turned a b c down.head? = 0 then byV a b cs down.tail else turned a b c down.head?

theorem cmp_small (a b : Vl) : Vl.cmp a b = -1 ∨ Vl.cmp a b = 0 ∨ Vl.cmp a b = 1 := by
  rcases Vl.cmp_cases a b with ⟨h, _⟩ | ⟨h, _⟩ | ⟨h, _⟩ <;> simp [h]
theorem cmp_neg (a b : Vl) : IntKind.wrap .i64 (0 - V.cmp a.k a.n a.s b.k b.n b.s) = 0 - Vl.cmp a b := by
  have := cmp_small a b
  show IntKind.wrap .i64 (0 - Vl.cmp a b) = _
  rw [wrap_i64 (by omega)]

theorem head_drop {α : Type} {l : List α} {i : Nat} {x : α} (h : l[i]? = some x) : (l.drop i).head? = some x := by rw [List.head?_drop, h]

theorem by_loop (a b : List Vl) (cols : List Int) (down : List Bool) (hc : cols.length ≤ 100) (hd : down.length ≤ 200) (γ : Type) (K : Int → Option γ) : ∀ (d i n : Nat) (r : Int), cols.length = i + d → d < n →
    Sp.row_By_L0 n (a.map Vl.enc) (b.map Vl.enc) (down.map bEnc) (cols.map iEnc) (Int.ofNat cols.length) r (i : Int) γ (fun z6 z7 z8 => bif Ex.isExit z6 0 then K z7 else bif Ex.isRet z6 then none else none) =
      K (if r = 0 then byV a b (cols.drop i) (down.drop i) else r) := by
  intro d
  induction d with
  | zero =>
    intro i n r hi hn
    obtain ⟨n, rfl⟩ : ∃ k, n = k + 1 := ⟨n - 1, by omega⟩
    unfold Sp.row_By_L0 Sp.B_row_By_L0
    rw [lt_f (by omega), List.drop_eq_nil_of_le (show cols.length ≤ i by omega)]
    by_cases h : r = 0
    · subst h; rfl
    · rw [if_neg h]; rfl
  | succ d ih =>
    intro i n r hi hn
    obtain ⟨n, rfl⟩ : ∃ k, n = k + 1 := ⟨n - 1, by omega⟩
    obtain ⟨c, hcc, hdc⟩ := dropv_cons (show i < cols.length by omega)
    unfold Sp.row_By_L0 Sp.B_row_By_L0
    rw [lt_t (by omega), cond_true, elemAt_map hcc]
    unfold iEnc
    rw [int_cell, row_at_eq, row_at_eq, value_Compare_eq, cmp_neg, hdc, next_i (by omega), List.length_map]
    show (bif _ then _ else Sp.cmp_Or_int [[Dat.int IntKind.i64 r], [Dat.int IntKind.i64 (Vl.cmp (atV a c) (atV b c))]] γ _) = _
    have key : ∀ x : Int, x = turned a b c (down.drop i).head? → (if (if r = 0 then x else r) = 0 then byV a b (cols.drop (i + 1)) (down.drop (i + 1)) else (if r = 0 then x else r)) =
        if r = 0 then byV a b (c :: cols.drop (i + 1)) (down.drop i) else r := by
      rintro x rfl
      by_cases h : r = 0
      · subst h
        simp only [if_true]
        show _ = if turned a b c (down.drop i).head? = 0 then byV a b _ (down.drop i).tail else _
        rw [List.tail_drop]
      · simp [h]
    by_cases h : i < down.length
    · obtain ⟨t, ht, _⟩ := dropv_cons h
      rw [lt_t h, cond_true, elemAt_map ht]
      unfold bEnc
      rw [bool_cell]
      have e := head_drop ht
      cases t with
      | true =>
        rw [cond_true, cmp_Or_two, show Sp.row_By_L0 n = Sp.row_By_L0 n from rfl]
        have := ih (i + 1) n (if r = 0 then 0 - Vl.cmp (atV a c) (atV b c) else r) (by omega) (by omega)
        unfold bEnc iEnc at this
        rw [this, key _ (by rw [e]; rfl)]
      | false =>
        rw [cond_false, cmp_Or_two]
        have := ih (i + 1) n (if r = 0 then Vl.cmp (atV a c) (atV b c) else r) (by omega) (by omega)
        unfold bEnc iEnc at this
        refine this.trans ?_
        rw [key _ (by rw [e]; rfl)]
    · rw [lt_f (by omega), cond_false, cmp_Or_two]
      have := ih (i + 1) n (if r = 0 then Vl.cmp (atV a c) (atV b c) else r) (by omega) (by omega)
      unfold iEnc at this
      refine this.trans ?_
      rw [key _ (by rw [List.drop_eq_nil_of_le (by omega)]; rfl)]

theorem row_By_eq (a b : List Vl) (cols : List Int) (down : List Bool) (hc : cols.length ≤ 100) (hd : down.length ≤ 200) (γ : Type) (K : Int → Option γ) :
    Sp.row_By (a.map Vl.enc) (b.map Vl.enc) (cols.map iEnc) (down.map bEnc) γ K = K (byV a b cols down) := by
  unfold Sp.row_By Sp.B_row_By
  rw [List.length_map]
  exact by_loop a b cols down hc hd γ K cols.length 0 fuel 0 (by omega) (by unfold fuel; omega)

theorem turned_zero {a b : List Vl} {c : Int} {d : Option Bool} : turned a b c d = 0 ↔ Vl.cmp (atV a c) (atV b c) = 0 := by
  unfold turned
  split <;> omega

theorem ref_by_loop (a b : List Vl) (cols : List Int) (down : List Bool) (hc : cols.length ≤ 100) (hd : down.length ≤ 200) (γ : Type) (K : Int → Option γ) : ∀ (d i n : Nat), cols.length = i + d → d < n →
    Sp.ref02_By_L0 n (a.map Vl.enc) (b.map Vl.enc) (cols.map iEnc) (down.map bEnc) 0 (i : Int) γ (fun z6 z7 z8 => bif Ex.isExit z6 0 then K 0 else bif Ex.isRet z6 then K z7 else none) =
      K (byV a b (cols.drop i) (down.drop i)) := by
  intro d
  induction d with
  | zero =>
    intro i n hi hn
    obtain ⟨n, rfl⟩ : ∃ k, n = k + 1 := ⟨n - 1, by omega⟩
    unfold Sp.ref02_By_L0 Sp.B_ref02_By_L0
    rw [List.length_map, lt_f (by omega), List.drop_eq_nil_of_le (show cols.length ≤ i by omega)]
    rfl
  | succ d ih =>
    intro i n hi hn
    obtain ⟨n, rfl⟩ : ∃ k, n = k + 1 := ⟨n - 1, by omega⟩
    obtain ⟨c, hcc, hdc⟩ := dropv_cons (show i < cols.length by omega)
    have hrec := ih (i + 1) n (by omega) (by omega)
    unfold Sp.ref02_By_L0 Sp.B_ref02_By_L0
    rw [List.length_map, lt_t (by omega), cond_true, elemAt_map hcc, iEnc_cell, ref02_at_eq, elemAt_map hcc, iEnc_cell, ref02_at_eq, ref01_Compare_eq, cmp_neg, hdc, next_i (by omega), hrec, List.length_map]
    show (bif decide (Vl.cmp (atV a c) (atV b c) = 0) then _ else _) = K (if turned a b c (down.drop i).head? = 0 then byV a b _ (down.drop i).tail else turned a b c (down.drop i).head?)
    by_cases h0 : Vl.cmp (atV a c) (atV b c) = 0
    · rw [decide_eq_true h0, cond_true, if_pos (turned_zero.2 h0), List.tail_drop]
    · rw [decide_eq_false h0, cond_false, if_neg (fun e => h0 (turned_zero.1 e))]
      by_cases h : i < down.length
      · obtain ⟨t, ht, _⟩ := dropv_cons h
        rw [lt_t h, cond_true, elemAt_map ht]
        rw [bEnc_cell, head_drop ht]
        cases t <;> rfl
      · rw [lt_f (by omega), cond_false, List.drop_eq_nil_of_le (show down.length ≤ i by omega)]
        rfl

theorem ref02_By_eq (a b : List Vl) (cols : List Int) (down : List Bool) (hc : cols.length ≤ 100) (hd : down.length ≤ 200) (γ : Type) (K : Int → Option γ) :
    Sp.ref02_By (a.map Vl.enc) (b.map Vl.enc) (cols.map iEnc) (down.map bEnc) γ K = K (byV a b cols down) := by
  unfold Sp.ref02_By Sp.B_ref02_By
  exact ref_by_loop a b cols down hc hd γ K cols.length 0 fuel (by omega) (by unfold fuel; omega)

theorem orders (lives : ∀ (γ : Type) (K : Bool → Option γ), Sp.law02_lives γ K = K true) (a b : List Vl) (cols : List Int) (down : List Bool) (γ : Type) (K : Bool → Option γ) :
    Sp.law02_RowOrders (a.map Vl.enc) (b.map Vl.enc) (cols.map iEnc) (down.map bEnc) γ K = K true := by
  unfold Sp.law02_RowOrders Sp.B_law02_RowOrders
  rw [large_eq]
  cases ha : large a with
  | true => rw [cond_true, lives]
  | false =>
    rw [cond_false, large_eq]
    cases hb : large b with
    | true => rw [cond_true, lives]
    | false =>
      rw [cond_false, List.length_map, List.length_map]
      by_cases hc : 100 < cols.length
      · rw [decide_eq_true (show (100 : Int) < Int.ofNat cols.length by simp only [Int.ofNat_eq_natCast]; omega), cond_true, lives]
      · rw [decide_eq_false (show ¬ (100 : Int) < Int.ofNat cols.length by simp only [Int.ofNat_eq_natCast]; omega), cond_false]
        by_cases hd : 200 < down.length
        · rw [decide_eq_true (show (200 : Int) < Int.ofNat down.length by simp only [Int.ofNat_eq_natCast]; omega), cond_true, lives]
        · rw [decide_eq_false (show ¬ (200 : Int) < Int.ofNat down.length by simp only [Int.ofNat_eq_natCast]; omega), cond_false]
          have h1 := (large_false ha).1
          have h2 := (large_false hb).1
          rw [row_Compare_eq a b (by omega), lives, cond_true, ref02_Compare_eq a b (by omega), decide_eq_true rfl, cond_true, row_Compare_eq b a (by omega), row_Same_eq a b (by omega),
            row_By_eq a b cols down (by omega) (by omega), ref02_By_eq a b cols down (by omega) (by omega), R.cmp_zero, beq_self_eq_true, cond_true, decide_eq_true rfl]
          have : R.cmp b a = IntKind.wrap .i64 (0 - R.cmp a b) := by
            rcases R.cmp_cases a b with ⟨h1, h2, _⟩ | ⟨h1, h2, _⟩ | ⟨h1, h2, _⟩ <;> rw [h1, h2] <;> rfl
          rw [decide_eq_true this, cond_true]
end Go.Proofs.Ytcglmokfjohdaaa

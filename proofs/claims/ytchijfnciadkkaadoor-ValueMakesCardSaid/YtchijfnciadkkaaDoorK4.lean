/- The laws of values, in plain Lean: what the functions compute answers as the statements say. -/
import Derived.Test.YtchijfnciadkkaaDoorK3
import Derived.Sort.Walk0
set_option linter.unusedVariables false
set_option linter.unusedSimpArgs false
namespace Go.Proofs.YtchijfnciadkkaaDoor
open Go Go.Aev Go.RowKit Go.Sort

namespace V
/-- may a value be? -/
def ok (k n : Int) (s : ByteArray) : Bool :=
  (decide (k = 0) && decide (n = 0) && decide (s = bs [])) || (decide (k = 1) && (decide (n = 0) || decide (n = 1)) && decide (s = bs [])) ||
  (decide (k = 2) && decide (-9007199254740991 ≤ n) && decide (n ≤ 9007199254740991) && decide (s = bs [])) || (decide (k = 3) && decide (n = 0) && decide ((s.size : Int) ≤ 64))
/-- how two texts stand -/
def cs (a b : ByteArray) : Int := if a.data.toList < b.data.toList then -1 else if a = b then 0 else 1
def ci (a b : Int) : Int := if a < b then -1 else if b < a then 1 else 0
/-- how two values stand -/
def cmp (k n : Int) (s : ByteArray) (k' n' : Int) (s' : ByteArray) : Int :=
  if ci k k' = 0 then (if ci n n' = 0 then cs s s' else ci n n') else ci k k'
def known (k n : Int) (s : ByteArray) (k' n' : Int) (s' : ByteArray) : Bool := !decide (k = 0) && !decide (k' = 0) && ok k n s && ok k' n' s'
def truth (b : Bool) : Int := cond b 1 0
def same (k n : Int) (s : ByteArray) (k' n' : Int) (s' : ByteArray) : Bool := decide (k = k') && (decide (n = n') && (decide (s = s') && true))
def equal (k n : Int) (s : ByteArray) (k' n' : Int) (s' : ByteArray) : Int := cond (known k n s k' n' s') (truth (same k n s k' n' s')) 2
def less (k n : Int) (s : ByteArray) (k' n' : Int) (s' : ByteArray) : Int := cond (known k n s k' n' s') (truth (decide (k = k') && decide (cmp k n s k' n' s' < 0))) 2
def tru (k n : Int) (s : ByteArray) : Int := cond (decide (k = 1) && ok k n s) n 2

theorem data_inj {a b : ByteArray} (h : a.data.toList = b.data.toList) : a = b := by
  cases a; cases b
  simp only [Array.toList_inj] at h
  subst h; rfl
theorem cs_self (a : ByteArray) : cs a a = 0 := by simp [cs, List.lt_irrefl]
theorem cs_cases (a b : ByteArray) : (cs a b = -1 ∧ cs b a = 1 ∧ a ≠ b ∧ a.data.toList < b.data.toList) ∨ (cs a b = 0 ∧ a = b) ∨ (cs a b = 1 ∧ cs b a = -1 ∧ a ≠ b ∧ b.data.toList < a.data.toList) := by
  by_cases h : a.data.toList < b.data.toList
  · have h2 : ¬ b.data.toList < a.data.toList := List.lt_asymm h
    have h3 : a ≠ b := fun e => by subst e; exact List.lt_irrefl _ h
    exact Or.inl ⟨by simp [cs, h], by simp [cs, h2, Ne.symm h3], h3, h⟩
  · by_cases he : a = b
    · subst he; exact Or.inr (Or.inl ⟨cs_self a, rfl⟩)
    · have h2 : b.data.toList < a.data.toList := by
        rcases List.le_iff_lt_or_eq.1 (List.not_lt.1 h) with h1 | h1
        · exact h1
        · exact absurd (data_inj h1.symm) he
      exact Or.inr (Or.inr ⟨by simp [cs, h, he], by simp [cs, h2], he, h2⟩)
theorem ci_cases (a b : Int) : (ci a b = -1 ∧ ci b a = 1 ∧ a < b) ∨ (ci a b = 0 ∧ ci b a = 0 ∧ a = b) ∨ (ci a b = 1 ∧ ci b a = -1 ∧ b < a) := by
  unfold ci
  by_cases h1 : a < b
  · have h2 : ¬ b < a := by omega
    simp [h1, h2]
  · by_cases h2 : b < a
    · simp [h1, h2]
    · have : a = b := by omega
      simp [h1, h2, this]
end V

/-! ### functions -/
theorem value_Check_eq (k n : Int) (s : ByteArray) (γ : Type) (K : Int → Option γ) : Sp.value_Check k n s γ K = K (cond (V.ok k n s) 0 10) := by
  unfold Sp.value_Check Sp.B_value_Check V.ok
  have hf : (Int.fdiv n 2 = 0) ↔ (n = 0 ∨ n = 1) := by
    rw [Int.fdiv_eq_ediv_of_nonneg _ (by decide)]
    omega
  by_cases h0 : k = 0
  · subst h0; by_cases h1 : n = 0 <;> by_cases h2 : s = bs [] <;> simp [h1, h2]
  by_cases h1 : k = 1
  · subst h1
    by_cases h1 : n = 0
    · subst h1; by_cases h2 : s = bs [] <;> simp [hf, h2]
    · by_cases h3 : n = 1
      · subst h3; by_cases h2 : s = bs [] <;> simp [hf, h2]
      · simp [hf, h1, h3]
  by_cases h2 : k = 2
  · subst h2
    by_cases h1 : -9007199254740991 ≤ n <;> by_cases h3 : n ≤ 9007199254740991 <;> by_cases h2 : s = bs [] <;> simp [h1, h2, h3]
  by_cases h3 : k = 3
  · subst h3
    by_cases h1 : n = 0 <;> by_cases h3 : (s.size : Int) ≤ 64 <;> simp [h1, h3]
  simp [h0, h1, h2, h3]
theorem ref01_Check_eq (k n : Int) (s : ByteArray) (γ : Type) (K : Bool → Option γ) : Sp.ref01_Check k n s γ K = K (V.ok k n s) := by
  unfold Sp.ref01_Check Sp.B_ref01_Check V.ok
  by_cases h0 : k = 0
  · subst h0; by_cases h1 : n = 0 <;> by_cases h2 : s = bs [] <;> simp [h1, h2]
  by_cases h1 : k = 1
  · subst h1
    by_cases h1 : n = 0
    · subst h1; by_cases h2 : s = bs [] <;> simp [h2]
    · by_cases h3 : n = 1
      · subst h3; by_cases h2 : s = bs [] <;> simp [h2]
      · simp [h1, h3]
  by_cases h2 : k = 2
  · subst h2
    by_cases h1 : -9007199254740991 ≤ n <;> by_cases h3 : n ≤ 9007199254740991 <;> by_cases h2 : s = bs [] <;> simp [h1, h2, h3]
  by_cases h3 : k = 3
  · subst h3
    by_cases h1 : n = 0 <;> by_cases h3 : (s.size : Int) ≤ 64 <;> simp [h1, h3]
  simp [h0, h1, h2, h3]
theorem cmp_Compare_int_eq (a b : Int) (γ : Type) (K : Int → Option γ) : Sp.cmp_Compare_int a b γ K = K (V.ci a b) := by
  unfold Sp.cmp_Compare_int Sp.B_cmp_Compare_int Sp.cmp_isNaN_int Sp.B_cmp_isNaN_int V.ci
  by_cases h1 : a < b <;> by_cases h2 : b < a <;> simp [h1, h2]
theorem cmp_Compare_string_eq (a b : ByteArray) (γ : Type) (K : Int → Option γ) : Sp.cmp_Compare_string a b γ K = K (V.cs a b) := by
  unfold Sp.cmp_Compare_string Sp.B_cmp_Compare_string Sp.cmp_isNaN_string Sp.B_cmp_isNaN_string V.cs
  rw [show Op.bytesLess a.data.toList b.data.toList = decide (a.data.toList < b.data.toList) from bytesLess_eq _ _]
  by_cases h2 : a = b
  · subst h2
    simp [List.lt_irrefl]
  · by_cases h1 : a.data.toList < b.data.toList <;> simp [h1, h2]
theorem cmp_Or_three (a b c : Int) (γ : Type) (K : Int → Option γ) : Sp.cmp_Or_int [[.int .i64 a], [.int .i64 b], [.int .i64 c]] γ K = K (if a = 0 then (if b = 0 then c else b) else a) := by
  have h : Sp.cmp_Or_int [[.int .i64 a], [.int .i64 b], [.int .i64 c]] γ K = cond (!decide (a = 0)) (K a) (cond (!decide (b = 0)) (K b) (cond (!decide (c = 0)) (K c) (K 0))) := by kernel_rfl
  rw [h]
  by_cases h1 : a = 0 <;> by_cases h2 : b = 0 <;> by_cases h3 : c = 0 <;> simp [h1, h2, h3]
theorem value_Compare_eq (k n : Int) (s : ByteArray) (k' n' : Int) (s' : ByteArray) (γ : Type) (K : Int → Option γ) : Sp.value_Compare k n s k' n' s' γ K = K (V.cmp k n s k' n' s') := by
  unfold Sp.value_Compare Sp.B_value_Compare V.cmp
  rw [cmp_Compare_int_eq, cmp_Compare_int_eq, cmp_Compare_string_eq, cmp_Or_three]
theorem ref01_Compare_eq (k n : Int) (s : ByteArray) (k' n' : Int) (s' : ByteArray) (γ : Type) (K : Int → Option γ) : Sp.ref01_Compare k n s k' n' s' γ K = K (V.cmp k n s k' n' s') := by
  unfold Sp.ref01_Compare Sp.B_ref01_Compare V.cmp
  rw [show Op.bytesLess s.data.toList s'.data.toList = decide (s.data.toList < s'.data.toList) from bytesLess_eq _ _]
  rcases V.ci_cases k k' with ⟨h1, _, h2⟩ | ⟨h1, _, h2⟩ | ⟨h1, _, h2⟩
  · simp [h1, h2]
  · subst h2
    rcases V.ci_cases n n' with ⟨h3, _, h4⟩ | ⟨h3, _, h4⟩ | ⟨h3, _, h4⟩
    · simp [h1, h3, h4]
    · subst h4
      rcases V.cs_cases s s' with ⟨h5, _, h6, h7⟩ | ⟨h5, h6⟩ | ⟨h5, h6, h7, h8⟩
      · simp [h1, h3, h5, h7]
      · subst h6; simp [h1, h3, h5, List.lt_irrefl]
      · have h9 : ¬ s.data.toList < s'.data.toList := List.lt_asymm h8
        simp [h1, h3, h5, h7, h9]
    · have h5 : ¬ n < n' := by omega
      have h6 : n ≠ n' := by omega
      simp [h1, h3, h5, h6]
  · have h5 : ¬ k < k' := by omega
    have h6 : k ≠ k' := by omega
    simp [h1, h5, h6]
theorem value_known_eq (k n : Int) (s : ByteArray) (k' n' : Int) (s' : ByteArray) (γ : Type) (K : Bool → Option γ) : Sp.value_known k n s k' n' s' γ K = K (V.known k n s k' n' s') := by
  unfold Sp.value_known Sp.B_value_known V.known
  simp only [value_Check_eq]
  by_cases h1 : k = 0 <;> by_cases h2 : k' = 0 <;> cases h3 : V.ok k n s <;> cases h4 : V.ok k' n' s' <;> simp [h1, h2]
theorem ref01_known_eq (k n : Int) (s : ByteArray) (k' n' : Int) (s' : ByteArray) (γ : Type) (K : Bool → Option γ) : Sp.ref01_known k n s k' n' s' γ K = K (V.known k n s k' n' s') := by
  unfold Sp.ref01_known Sp.B_ref01_known V.known
  simp only [ref01_Check_eq]
  by_cases h1 : k = 0 <;> by_cases h2 : k' = 0 <;> cases h3 : V.ok k n s <;> cases h4 : V.ok k' n' s' <;> simp [h1, h2]
theorem value_truth_eq (b : Bool) (γ : Type) (K : Int → Option γ) : Sp.value_truth b γ K = K (V.truth b) := by cases b <;> rfl
theorem ref01_truth_eq (b : Bool) (γ : Type) (K : Int → Option γ) : Sp.ref01_truth b γ K = K (V.truth b) := by cases b <;> rfl
theorem value_Equal_eq (k n : Int) (s : ByteArray) (k' n' : Int) (s' : ByteArray) (γ : Type) (K : Int → Option γ) : Sp.value_Equal k n s k' n' s' γ K = K (V.equal k n s k' n' s') := by
  unfold Sp.value_Equal Sp.B_value_Equal V.equal
  simp only [value_known_eq, value_truth_eq]
  cases V.known k n s k' n' s' <;> rfl
theorem ref01_Equal_eq (k n : Int) (s : ByteArray) (k' n' : Int) (s' : ByteArray) (γ : Type) (K : Int → Option γ) : Sp.ref01_Equal k n s k' n' s' γ K = K (V.equal k n s k' n' s') := by
  unfold Sp.ref01_Equal Sp.B_ref01_Equal V.equal
  simp only [ref01_known_eq, ref01_truth_eq]
  cases V.known k n s k' n' s' <;> rfl
theorem value_Less_eq (k n : Int) (s : ByteArray) (k' n' : Int) (s' : ByteArray) (γ : Type) (K : Int → Option γ) : Sp.value_Less k n s k' n' s' γ K = K (V.less k n s k' n' s') := by
  unfold Sp.value_Less Sp.B_value_Less V.less
  simp only [value_known_eq, value_truth_eq, value_Compare_eq]
  cases V.known k n s k' n' s'
  · rfl
  · by_cases h : k = k' <;> simp [h]
theorem ref01_Less_eq (k n : Int) (s : ByteArray) (k' n' : Int) (s' : ByteArray) (γ : Type) (K : Int → Option γ) : Sp.ref01_Less k n s k' n' s' γ K = K (V.less k n s k' n' s') := by
  unfold Sp.ref01_Less Sp.B_ref01_Less V.less
  simp only [ref01_known_eq, ref01_truth_eq, ref01_Compare_eq]
  cases V.known k n s k' n' s'
  · rfl
  · by_cases h : k = k' <;> simp [h]
theorem value_Truth_eq (k n : Int) (s : ByteArray) (γ : Type) (K : Int → Option γ) : Sp.value_Truth k n s γ K = K (V.tru k n s) := by
  unfold Sp.value_Truth Sp.B_value_Truth V.tru
  simp only [value_Check_eq]
  by_cases h : k = 1 <;> cases V.ok k n s <;> simp [h]
theorem ref01_Truth_eq (k n : Int) (s : ByteArray) (γ : Type) (K : Int → Option γ) : Sp.ref01_Truth k n s γ K = K (V.tru k n s) := by
  unfold Sp.ref01_Truth Sp.B_ref01_Truth V.tru
  simp only [ref01_Check_eq]
  by_cases h : k = 1 <;> cases V.ok k n s <;> simp [h]
theorem law01_lives_eq (γ : Type) (K : Bool → Option γ) : Sp.law01_lives γ K = K true := by kernel_rfl

/-! ### the laws -/
theorem compares (k n : Int) (s : ByteArray) (k' n' : Int) (s' : ByteArray) (γ : Type) (K : Bool → Option γ) : Sp.law01_ValueCompares k n s k' n' s' γ K = K true := by
  unfold Sp.law01_ValueCompares Sp.B_law01_ValueCompares
  simp only [law01_lives_eq, value_Compare_eq, ref01_Compare_eq, value_Equal_eq, ref01_Equal_eq, value_Less_eq, ref01_Less_eq, value_Truth_eq, ref01_Truth_eq, decide_true, cond_true]
theorem V.cmp_cases (k n : Int) (s : ByteArray) (k' n' : Int) (s' : ByteArray) : (V.cmp k n s k' n' s' = -1 ∧ V.cmp k' n' s' k n s = 1 ∧ V.same k n s k' n' s' = false) ∨ (V.cmp k n s k' n' s' = 0 ∧ V.cmp k' n' s' k n s = 0 ∧ V.same k n s k' n' s' = true) ∨ (V.cmp k n s k' n' s' = 1 ∧ V.cmp k' n' s' k n s = -1 ∧ V.same k n s k' n' s' = false) := by
  unfold V.cmp V.same
  rcases V.ci_cases k k' with ⟨h1, h2, h3⟩ | ⟨h1, h2, h3⟩ | ⟨h1, h2, h3⟩
  · have : k ≠ k' := by omega
    simp [h1, h2, this]
  · subst h3
    rcases V.ci_cases n n' with ⟨h4, h5, h6⟩ | ⟨h4, h5, h6⟩ | ⟨h4, h5, h6⟩
    · have : n ≠ n' := by omega
      simp [h1, h4, h5, this]
    · subst h6
      rcases V.cs_cases s s' with ⟨h7, h8, h9, _⟩ | ⟨h7, h8⟩ | ⟨h7, h8, h9, _⟩
      · simp [h1, h4, h7, h8, h9]
      · subst h8; simp [h1, h4, h7]
      · simp [h1, h4, h7, h8, h9]
    · have : n ≠ n' := by omega
      simp [h1, h4, h5, this]
  · have : k ≠ k' := by omega
    simp [h1, h2, this]
def V.lt (k n : Int) (s : ByteArray) (k' n' : Int) (s' : ByteArray) : Prop := k < k' ∨ (k = k' ∧ (n < n' ∨ (n = n' ∧ s.data.toList < s'.data.toList)))
theorem V.cmp_lt (k n : Int) (s : ByteArray) (k' n' : Int) (s' : ByteArray) : V.cmp k n s k' n' s' = -1 ↔ V.lt k n s k' n' s' := by
  unfold V.cmp V.lt
  rcases V.ci_cases k k' with ⟨h1, h2, h3⟩ | ⟨h1, h2, h3⟩ | ⟨h1, h2, h3⟩
  · simp [h1, h3]
  · subst h3
    rcases V.ci_cases n n' with ⟨h4, h5, h6⟩ | ⟨h4, h5, h6⟩ | ⟨h4, h5, h6⟩
    · simp [h1, h4, h6]
    · subst h6
      rcases V.cs_cases s s' with ⟨h7, h8, h9, h10⟩ | ⟨h7, h8⟩ | ⟨h7, h8, h9, h10⟩
      · simp [h1, h4, h7, h10]
      · subst h8; simp [h1, h4, h7, List.lt_irrefl]
      · have : ¬ s.data.toList < s'.data.toList := List.lt_asymm h10
        simp [h1, h4, h7, this]
    · have : n ≠ n' := by omega
      have h8 : ¬ n < n' := by omega
      simp [h1, h4, this, h8]
  · have : k ≠ k' := by omega
    have h8 : ¬ k < k' := by omega
    simp [h1, this, h8]
theorem V.lt_trans {k n : Int} {s : ByteArray} {k' n' : Int} {s' : ByteArray} {k2 n2 : Int} {s2 : ByteArray} (h1 : V.lt k n s k' n' s') (h2 : V.lt k' n' s' k2 n2 s2) : V.lt k n s k2 n2 s2 := by
  unfold V.lt at *
  rcases h1 with h1 | ⟨rfl, h1 | ⟨rfl, h1⟩⟩ <;> rcases h2 with h2 | ⟨rfl, h2 | ⟨rfl, h2⟩⟩
  · exact Or.inl (by omega)
  · exact Or.inl h1
  · exact Or.inl h1
  · exact Or.inl h2
  · exact Or.inr ⟨rfl, Or.inl (by omega)⟩
  · exact Or.inr ⟨rfl, Or.inl h1⟩
  · exact Or.inl h2
  · exact Or.inr ⟨rfl, Or.inl h2⟩
  · exact Or.inr ⟨rfl, Or.inr ⟨rfl, List.lt_trans h1 h2⟩⟩
theorem V.same_eq {k n : Int} {s : ByteArray} {k' n' : Int} {s' : ByteArray} (h : V.same k n s k' n' s' = true) : k = k' ∧ n = n' ∧ s = s' := by
  unfold V.same at h
  simpa using h
theorem orders (k n : Int) (s : ByteArray) (k' n' : Int) (s' : ByteArray) (k2 n2 : Int) (s2 : ByteArray) (γ : Type) (K : Bool → Option γ) : Sp.law01_ValueOrders k n s k' n' s' k2 n2 s2 γ K = K true := by
  unfold Sp.law01_ValueOrders Sp.B_law01_ValueOrders
  simp only [law01_lives_eq, value_Compare_eq, cond_true]
  have hs : (decide (k = k') && (decide (n = n') && (decide (s = s') && true))) = V.same k n s k' n' s' := rfl
  rw [hs]
  have w1 : IntKind.wrap .i64 1 = 1 := by decide
  have w2 : IntKind.wrap .i64 (-1) = -1 := by decide
  have w3 : IntKind.wrap .i64 0 = 0 := by decide
  rcases V.cmp_cases k n s k' n' s' with ⟨h1, h2, h3⟩ | ⟨h1, h2, h3⟩ | ⟨h1, h2, h3⟩
  · rcases V.cmp_cases k' n' s' k2 n2 s2 with ⟨h4, h5, h6⟩ | ⟨h4, h5, h6⟩ | ⟨h4, h5, h6⟩
    · have h7 := (V.cmp_lt ..).2 (V.lt_trans ((V.cmp_lt ..).1 h1) ((V.cmp_lt ..).1 h4))
      simp [h1, h2, h3, h4, h7, w1]
    · obtain ⟨rfl, rfl, rfl⟩ := V.same_eq h6
      simp [h1, h2, h3, h4, w1]
    · simp [h1, h2, h3, h4, w1]
  · obtain ⟨rfl, rfl, rfl⟩ := V.same_eq h3
    rcases V.cmp_cases k n s k2 n2 s2 with ⟨h4, h5, h6⟩ | ⟨h4, h5, h6⟩ | ⟨h4, h5, h6⟩
    · simp [h1, h3, h4, w3]
    · simp [h1, h3, h4, w3]
    · simp [h1, h3, h4, w3]
  · simp [h1, h2, h3, w2]
end Go.Proofs.YtchijfnciadkkaaDoor

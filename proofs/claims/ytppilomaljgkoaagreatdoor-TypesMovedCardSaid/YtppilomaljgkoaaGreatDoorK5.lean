/- Which expressions may be, how many they are, how deep: the program's answer is the reference's. -/
import Derived.Test.YtppilomaljgkoaaGreatDoorKN
set_option linter.unusedVariables false
set_option linter.unusedSimpArgs false
namespace Go.Proofs.YtppilomaljgkoaaGreatDoor
open Go Go.Aev Go.RowKit Go.Sort
def arity (n : Int) : Int := if n = 3 ∨ (15 ≤ n ∧ n ≤ 17) then 1 else if 1 ≤ n ∧ n < 15 then 2 else 0
theorem Arity_eq (n : Int) (γ : Type) (K : Int → Option γ) : Sp.expr_Arity n γ K = K (arity n) := by
  unfold Sp.expr_Arity Sp.B_expr_Arity arity
  by_cases h1 : n = 3 <;> by_cases h2 : 15 ≤ n <;> by_cases h3 : n ≤ 17 <;> by_cases h4 : 1 ≤ n <;> by_cases h5 : n < 15 <;> simp [h1, h2, h3, h4, h5] <;> omega
theorem ref_Arity_eq (n : Int) (γ : Type) (K : Int → Option γ) : Sp.ref10_Arity n γ K = K (arity n) := by
  unfold Sp.ref10_Arity Sp.B_ref10_Arity arity
  by_cases h1 : n = 3
  · simp [h1]
  by_cases h2 : n = 15
  · simp [h2]
  by_cases h3 : n = 16
  · simp [h3]
  by_cases h4 : n = 17
  · simp [h4]
  have h5 : ¬ (n = 3 ∨ (15 ≤ n ∧ n ≤ 17)) := by omega
  rw [if_neg h5]
  simp only [h1, h2, h3, h4, decide_false, cond_false]
  by_cases h6 : 1 ≤ n
  · by_cases h7 : n ≤ 17
    · rw [decide_eq_true h6, decide_eq_true h7, if_pos ⟨h6, by omega⟩]; rfl
    · rw [decide_eq_true h6, decide_eq_false h7, if_neg (by omega)]; rfl
  · rw [decide_eq_false h6, if_neg (by omega)]; rfl
def nov (h : Hd) : Bool := decide (h.vk = 0) && (decide (h.vn = 0) && (decide (mk h.vs = bs []) && true))
def may (h : Hd) (m : Nat) : Bool :=
  if h.k = 1 then V.ok h.vk h.vn (mk h.vs) && ((!decide (h.vk = 2) || decide (0 ≤ h.vn)) && (decide (h.n = 0) && (decide (mk h.tab = bs []) && (decide (mk h.col = bs []) && decide (m = 0)))))
  else if h.k = 2 then nameOk h.col && ((decide (mk h.tab = bs []) || nameOk h.tab) && (decide (0 ≤ h.n) && (decide (h.n < 32) && (nov h && decide (m = 0)))))
  else if h.k = 3 then nov h && (decide (mk h.tab = bs []) && (decide (mk h.col = bs []) && (decide (0 < arity h.n) && decide ((m : Int) = arity h.n))))
  else if h.k = 4 then nov h && (decide (mk h.tab = bs []) && (decide (mk h.col = bs []) && (decide (1 ≤ h.n) && (decide (h.n ≤ 5) && decide (m = if h.n = 1 then 0 else 1)))))
  else false
theorem natZ (m : Nat) : decide (Int.ofNat m = 0) = decide (m = 0) := by rw [decide_eq_decide]; simp only [Int.ofNat_eq_natCast]; omega
theorem natO (m : Nat) : decide (Int.ofNat m = 1) = decide (m = 1) := by rw [decide_eq_decide]; simp only [Int.ofNat_eq_natCast]; omega
theorem bare_eq (h : Hd) (l : List (List Dat)) (γ : Type) (K : Bool → Option γ) : Sp.expr_bare h.k h.n h.vk h.vn (mk h.vs) (mk h.tab) (mk h.col) l γ K = K (nov h && (decide (mk h.tab = bs []) && decide (mk h.col = bs []))) := by
  unfold Sp.expr_bare Sp.B_expr_bare
  show (bif nov h then _ else K false) = _
  cases nov h <;> cases decide (mk h.tab = bs []) <;> rfl
theorem may_eq (h : Hd) (ks : Fo) (hb : h.big = false) (γ : Type) (K : Bool → Option γ) : Sp.expr_may h.k h.n h.vk h.vn (mk h.vs) (mk h.tab) (mk h.col) ks.enc γ K = K (may h ks.len) := by
  simp only [Hd.big, Bool.or_eq_false_iff, decide_eq_false_iff_not] at hb
  unfold Sp.expr_may Sp.B_expr_may may
  by_cases h1 : h.k = 1
  · rw [decide_eq_true h1, cond_true, if_pos h1]
    unfold Sp.expr_literal Sp.B_expr_literal
    rw [value_Check_eq, Fo.enc_len, natZ]
    cases V.ok h.vk h.vn (mk h.vs) with
    | false => rfl
    | true =>
      simp only [cond_true, decide_true, Bool.true_and]
      cases decide (h.vk = 2) <;> cases decide (0 ≤ h.vn) <;> cases decide (h.n = 0) <;> cases decide (mk h.tab = bs []) <;> cases decide (mk h.col = bs []) <;> rfl
  rw [decide_eq_false h1, cond_false, if_neg h1]
  by_cases h2 : h.k = 2
  · rw [decide_eq_true h2, cond_true, if_pos h2]
    unfold Sp.expr_column Sp.B_expr_column
    rw [lex_Name_eq _ (by omega), Fo.enc_len, natZ]
    cases nameOk h.col with
    | false => rfl
    | true =>
      simp only [cond_true, Bool.true_and]
      rw [lex_Name_eq _ (by omega)]
      show _ = K ((_ || _) && (_ && (_ && (nov h && _))))
      unfold nov
      cases decide (mk h.tab = bs []) <;> cases nameOk h.tab <;> cases decide (0 ≤ h.n) <;> cases decide (h.n < 32) <;> cases (decide (h.vk = 0) && (decide (h.vn = 0) && (decide (mk h.vs = bs []) && true))) <;> rfl
  rw [decide_eq_false h2, cond_false, if_neg h2]
  by_cases h3 : h.k = 3
  · rw [decide_eq_true h3, cond_true, if_pos h3, bare_eq, Arity_eq]
    rw [Arity_eq, Fo.enc_len]
    show _ = K (nov h && (_ && (_ && (_ && decide (Int.ofNat ks.len = arity h.n)))))
    cases nov h <;> cases decide (mk h.tab = bs []) <;> cases decide (mk h.col = bs []) <;> cases decide (0 < arity h.n) <;> rfl
  rw [decide_eq_false h3, cond_false, if_neg h3]
  by_cases h4 : h.k = 4
  · rw [decide_eq_true h4, cond_true, if_pos h4]
    unfold Sp.expr_agg Sp.B_expr_agg
    rw [bare_eq, bare_eq, Fo.enc_len, natZ, natO]
    by_cases h5 : h.n = 1
    · rw [decide_eq_true h5, cond_true, if_pos h5]
      cases nov h <;> cases decide (mk h.tab = bs []) <;> cases decide (mk h.col = bs []) <;> cases decide (1 ≤ h.n) <;> cases decide (h.n ≤ 5) <;> rfl
    · rw [decide_eq_false h5, cond_false, if_neg h5]
      cases nov h <;> cases decide (mk h.tab = bs []) <;> cases decide (mk h.col = bs []) <;> cases decide (1 ≤ h.n) <;> cases decide (h.n ≤ 5) <;> rfl
  rw [decide_eq_false h4, cond_false, if_neg h4]
theorem ref_one_eq (h : Hd) (ks : Fo) (a : Bool) (hb : h.big = false) (γ : Type) (K : Bool → Option γ) : Sp.ref10_one h.k h.n h.vk h.vn (mk h.vs) (mk h.tab) (mk h.col) ks.enc a γ K = K (may h ks.len && !(a && decide (h.k = 4))) := by
  simp only [Hd.big, Bool.or_eq_false_iff, decide_eq_false_iff_not] at hb
  unfold Sp.ref10_one Sp.B_ref10_one may
  by_cases h1 : h.k = 1
  · rw [decide_eq_true h1, cond_true, if_pos h1, decide_eq_false (show ¬ h.k = 4 by omega), show (a && false) = false from Bool.and_false a, Bool.not_false, Fo.enc_len, natZ, ref01_Check_eq]
    cases V.ok h.vk h.vn (mk h.vs) <;> cases decide (h.vk = 2) <;> cases decide (0 ≤ h.vn) <;> cases decide (h.n = 0) <;> cases decide (mk h.tab = bs []) <;> cases decide (mk h.col = bs []) <;> cases decide (ks.len = 0) <;> rfl
  rw [decide_eq_false h1, cond_false, if_neg h1]
  by_cases h2 : h.k = 2
  · rw [decide_eq_true h2, cond_true, if_pos h2, decide_eq_false (show ¬ h.k = 4 by omega), show (a && false) = false from Bool.and_false a, Bool.not_false, Fo.enc_len, natZ, ref_Name_eq _ (by omega), ref_Name_eq _ (by omega)]
    unfold nov
    cases decide (mk h.tab = bs []) <;> cases nameOk h.tab <;> cases nameOk h.col <;> cases decide (0 ≤ h.n) <;> cases decide (h.n < 32) <;> cases (decide (h.vk = 0) && (decide (h.vn = 0) && (decide (mk h.vs = bs []) && true))) <;> cases decide (ks.len = 0) <;> rfl
  rw [decide_eq_false h2, cond_false, if_neg h2]
  by_cases h3 : h.k = 3
  · rw [decide_eq_true h3, cond_true, if_pos h3, decide_eq_false (show ¬ h.k = 4 by omega), show (a && false) = false from Bool.and_false a, Bool.not_false, ref_Arity_eq, ref_Arity_eq, Fo.enc_len]
    show _ = K ((nov h && (_ && (_ && (_ && decide (Int.ofNat ks.len = arity h.n))))) && true)
    unfold nov
    cases (decide (h.vk = 0) && (decide (h.vn = 0) && (decide (mk h.vs = bs []) && true))) <;> cases decide (mk h.tab = bs []) <;> cases decide (mk h.col = bs []) <;> cases decide (0 < arity h.n) <;> cases decide (Int.ofNat ks.len = arity h.n) <;> rfl
  rw [decide_eq_false h3, cond_false, if_neg h3]
  by_cases h4 : h.k = 4
  · rw [decide_eq_true h4, cond_true, if_pos h4, show (a && true) = a from Bool.and_true a, Fo.enc_len, natZ]
    have e : ((decide (h.n = 1) == decide (ks.len = 0)) && decide (Int.ofNat ks.len ≤ 1)) = decide (ks.len = if h.n = 1 then 0 else 1) := by
      by_cases h5 : h.n = 1
      · rw [if_pos h5, decide_eq_true h5]
        by_cases h6 : ks.len = 0
        · rw [h6]; rfl
        · rw [decide_eq_false h6]; rfl
      · rw [if_neg h5, decide_eq_false h5]
        by_cases h6 : ks.len = 0
        · rw [h6]; rfl
        · rw [decide_eq_false h6]
          show decide _ = _
          rw [decide_eq_decide]; simp only [Int.ofNat_eq_natCast]; omega
    rw [← e]
    unfold nov
    cases a <;> cases (decide (h.vk = 0) && (decide (h.vn = 0) && (decide (mk h.vs = bs []) && true))) <;> cases decide (mk h.tab = bs []) <;> cases decide (mk h.col = bs []) <;> cases decide (1 ≤ h.n) <;> cases decide (h.n ≤ 5) <;> cases (decide (h.n = 1) == decide (ks.len = 0)) <;> (first | rfl | (cases decide (Int.ofNat ks.len ≤ 1) <;> rfl))
  rw [decide_eq_false h4, cond_false, if_neg h4, Bool.false_and]
end Go.Proofs.YtppilomaljgkoaaGreatDoor

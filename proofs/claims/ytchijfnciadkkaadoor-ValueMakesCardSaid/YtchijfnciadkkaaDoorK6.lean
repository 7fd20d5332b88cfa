/- How any value is shown, in plain Lean. -/
import Derived.Test.YtchijfnciadkkaaDoorK4
import Derived.Test.YtchijfnciadkkaaDoorAevC
import Derived.Lib.SplitLaws
set_option linter.unusedVariables false
set_option linter.unusedSimpArgs false
namespace Go.Proofs.YtchijfnciadkkaaDoor
open Go Go.Aev Go.RowKit Go.Sort

/-- each quote twice -/
def dbl : List UInt8 → List UInt8
  | [] => []
  | c :: l => if c = 39 then 39 :: 39 :: dbl l else c :: dbl l

theorem dbl_length : ∀ l, (dbl l).length ≤ 2 * l.length
  | [] => by simp [dbl]
  | c :: l => by
    have := dbl_length l
    unfold dbl
    split <;> simp <;> omega
theorem dbl_append : ∀ a b, dbl (a ++ b) = dbl a ++ dbl b
  | [], b => rfl
  | c :: a, b => by
    simp only [List.cons_append, dbl, dbl_append a b]
    split <;> simp

theorem replaceK_dbl : ∀ l : List UInt8, Lib.replaceK [39] [39, 39] (Lib.count l [39]) l = dbl l
  | [] => by
    have : Lib.count ([] : List UInt8) [39] = 0 := by rw [Lib.count_one]; rfl
    rw [this]; rfl
  | c :: l => by
    have ih := replaceK_dbl l
    by_cases hc : c = 39
    · subst hc
      rw [Lib.count_cons_eq, Nat.add_comm]
      have h0 : Lib.index (39 :: l) [39] = ((0 : Nat) : Int) := by simp [Lib.index]
      rw [Lib.replaceK_hit _ _ _ _ 0 h0]
      simp only [List.take_zero, List.nil_append, List.length_singleton, Nat.zero_add, List.drop_one, List.tail_cons, ih, dbl]
      rfl
    · rw [Lib.count_cons_ne c 39 l hc]
      have hne : List.isPrefixOf [39] (c :: l) = false := by
        simp [List.isPrefixOf]
        exact fun h => hc h.symm
      cases hn : Lib.count l [39] with
      | zero =>
        rw [hn] at ih
        show c :: l = dbl (c :: l)
        simp only [dbl, if_neg hc]
        rw [← ih]
        rfl
      | succ k =>
        obtain ⟨i, hi⟩ := Lib.index_of_count (s := l) (old := [39]) (by omega)
        have hi' : Lib.index (c :: l) [39] = ((i + 1 : Nat) : Int) := by
          rw [Lib.index, hne]
          rw [hi]
          have : ((i : Int) == -1) = false := by
            rw [beq_eq_false_iff_ne]; omega
          simp [this]
        rw [Lib.replaceK_hit _ _ _ _ (i + 1) hi']
        rw [hn, Lib.replaceK_hit _ _ _ _ i hi] at ih
        simp only [dbl, if_neg hc, ← ih]
        simp
theorem replaceAll_dbl (l : List UInt8) : Lib.replaceAll l [39] [39, 39] = dbl l := by
  unfold Lib.replaceAll Lib.replace Lib.replaceNum
  rw [if_neg (by decide), if_pos (Or.inl (by decide))]
  exact replaceK_dbl l

/-- the loop of the reference's Show -/
theorem show_loop : ∀ (r : List UInt8) (n : Nat) (s t : List UInt8) (i : Nat) (x y : Int) (γ : Type) (K : Ex → ByteArray → Int → Int → Int → ByteArray → Option γ), t.drop i = r → r.length < n → t.length ≤ 5000 → s.length ≤ 1 + 2 * i → i ≤ t.length →
    Sp.ref01_Show_L1 n (mk s) (i : Int) x y (mk t) γ K = K (.exit 1) (mk (s ++ dbl r)) (t.length : Int) x y (mk t)
  | r, 0, s, t, i, x, y, γ, K, hr, hn, _, _, _ => by omega
  | r, n + 1, s, t, i, x, y, γ, K, hr, hn, ht, hs, hi => by
    unfold Sp.ref01_Show_L1 Sp.B_ref01_Show_L1
    have hlen : r.length = t.length - i := by rw [← hr]; simp
    cases r with
    | nil =>
      have : i = t.length := by simp at hlen; omega
      subst this
      simp [dbl]
    | cons c r =>
      have hlt : i < t.length := by simp at hlen; omega
      have hget : t[i]? = some c := by
        have := congrArg (fun l => l[0]?) hr
        simpa using this
      have hw : IntKind.wrap .i64 ((i : Int) + 1) = ((i + 1 : Nat) : Int) := by rw [wrap_i64 (by omega)]; rfl
      have hex : (mk t).extract i (i + 1) = mk [c] := by
        rw [extract_mk]
        congr 1
        rw [List.drop_take, hr]
        simp
      have hr' : t.drop (i + 1) = r := by rw [← List.drop_drop, hr]; rfl
      simp only [hw, Int.toNat_natCast, hex, byteAt_some hget, size_mk, mk_append, bs_mk, List.map_cons, List.map_nil]
      have h1 : ((i : Int) < Int.ofNat t.length) := by simpa using hlt
      have h2 : (((i + 1 : Nat) : Int) ≤ Int.ofNat t.length) := by
        show ((i + 1 : Nat) : Int) ≤ (t.length : Int)
        omega
      have h3 : (i : Int) ≤ ((i + 1 : Nat) : Int) := by omega
      have h4 : (0 : Int) ≤ (i : Int) := by omega
      have h5 : s.length + [c].length ≤ 1152921504606846976 := by simp; omega
      have h6 : (s ++ [c]).length + 1 ≤ 1152921504606846976 := by simp; omega
      simp only [h1, h2, h3, h4, h5, h6, decide_true, Bool.and_true, cond_true]
      by_cases hc : c = 39
      · subst hc
        have ih := show_loop r n (s ++ [39] ++ [39]) t (i + 1) x y γ K hr' (by simp at hn; omega) ht (by simp; omega) (by omega)
        have he : (decide (Int.ofNat (BitVec.toFin (UInt8.toBitVec 39)).1 = 39)) = true := by decide
        rw [he, cond_true]
        refine ih.trans ?_
        simp [dbl]
      · have ih := show_loop r n (s ++ [c]) t (i + 1) x y γ K hr' (by simp at hn; omega) ht (by simp; omega) (by omega)
        have he : (decide (Int.ofNat (BitVec.toFin (UInt8.toBitVec c)).1 = 39)) = false := by
          rw [decide_eq_false_iff_not]
          intro h
          apply hc
          have : c.toNat = 39 := by
            have h2 : ((c.toNat : Nat) : Int) = 39 := h
            omega
          exact UInt8.toNat_inj.1 this
        rw [he, cond_false]
        refine ih.trans ?_
        simp [dbl, hc]

theorem digit_at {d : Nat} (h : d < 10) : ((mk ([48, 49, 50, 51, 52, 53, 54, 55, 56, 57].map UInt8.ofNat)).extract d (d + 1)) = mk [UInt8.ofNat (48 + d)] := by
  have : ∀ d : Fin 10, ((mk ([48, 49, 50, 51, 52, 53, 54, 55, 56, 57].map UInt8.ofNat)).extract d.val (d.val + 1)) = mk [UInt8.ofNat (48 + d.val)] := by
    intro d
    rw [extract_mk]
    congr 1
    revert d
    decide
  exact this ⟨d, h⟩

theorem dec_big {u : Nat} (h : ¬ u < 10) : Lib.decDigits u = Lib.decDigits (u / 10) ++ [UInt8.ofNat (48 + u % 10)] := by
  conv => lhs; rw [Lib.decDigits, dif_neg h]
theorem digits_round (n u : Nat) (s : List UInt8) (γ : Type) (K : Ex → Int → ByteArray → Option γ) (hu : u < 10 ^ 18) (hs : s.length ≤ 100) (hor : 0 < u ∨ s = []) :
    Sp.ref01_Digits_L0 (n + 1) (u : Int) (mk s) γ K = Sp.ref01_Digits_L0 n ((u / 10 : Nat) : Int) (mk (UInt8.ofNat (48 + u % 10) :: s)) γ K := by
  rw [Sp.ref01_Digits_L0]
  unfold Sp.B_ref01_Digits_L0
  have hm : Int.tmod (u : Int) 10 = ((u % 10 : Nat) : Int) := by
    rw [Int.tmod_eq_emod_of_nonneg (by omega)]; rfl
  have hd : Int.tdiv (u : Int) 10 = ((u / 10 : Nat) : Int) := by
    rw [Int.tdiv_eq_ediv_of_nonneg (by omega)]; rfl
  have hlt : u % 10 < 10 := Nat.mod_lt _ (by decide)
  have hw : IntKind.wrap .i64 (((u % 10 : Nat) : Int) + 1) = ((u % 10 + 1 : Nat) : Int) := by rw [wrap_i64 (by omega)]; rfl
  have hw2 : IntKind.wrap .i64 ((u / 10 : Nat) : Int) = ((u / 10 : Nat) : Int) := by rw [wrap_i64 (by omega)]
  have h1 : (0 : Int) ≤ ((u % 10 : Nat) : Int) := by omega
  have h2 : ((u % 10 : Nat) : Int) ≤ ((u % 10 + 1 : Nat) : Int) := by omega
  have h3 : ((u % 10 + 1 : Nat) : Int) ≤ 10 := by omega
  simp only [hm, hd, hw, hw2, Int.toNat_natCast, bs_mk, digit_at hlt, size_mk, mk_append, h1, h2, h3, decide_true, Bool.and_true, cond_true]
  have h4 : [UInt8.ofNat (48 + u % 10)].length + s.length ≤ 1152921504606846976 := by simp; omega
  simp only [h4, decide_true, cond_true, List.cons_append, List.nil_append]
  rcases hor with h | h
  · have : (0 : Int) < (u : Int) := by omega
    simp only [this, decide_true, cond_true]
  · subst h
    by_cases h0 : (0 : Int) < (u : Int)
    · simp only [h0, decide_true, cond_true]
    · simp [h0]

theorem digits_loop : ∀ (k : Nat) (n : Nat) (u : Nat) (s : List UInt8) (γ : Type) (K : Ex → Int → ByteArray → Option γ), u < 10 ^ k → k < n → k ≤ 18 → s.length + k ≤ 100 → s ≠ [] →
    Sp.ref01_Digits_L0 n (u : Int) (mk s) γ K = K (.exit 0) 0 (mk ((if u = 0 then [] else Lib.decDigits u) ++ s))
  | k, 0, u, s, γ, K, _, h, _, _, _ => by omega
  | k, n + 1, u, s, γ, K, hu, hn, hk, hs, hne => by
    by_cases h0 : u = 0
    · subst h0
      rw [Sp.ref01_Digits_L0]
      unfold Sp.B_ref01_Digits_L0
      have : mk s ≠ bs [] := by
        rw [bs_mk]
        intro h
        exact hne (mk_inj.1 h)
      simp [this]
    · cases k with
      | zero => simp at hu; omega
      | succ k =>
        have hp : (10 : Nat) ^ (k + 1) ≤ 10 ^ 18 := Nat.pow_le_pow_right (by decide) hk
        rw [digits_round n u s γ K (by omega) (by omega) (Or.inl (by omega))]
        rw [digits_loop k n (u / 10) _ γ K (by rw [Nat.pow_succ] at hu; omega) (by omega) (by omega) (by simp; omega) (by simp)]
        rw [if_neg h0]
        by_cases h10 : u < 10
        · have : u / 10 = 0 := by omega
          have h11 : u % 10 = u := by omega
          simp [this, h11, Lib.decDigits_one h10]
        · have : u / 10 ≠ 0 := by omega
          rw [if_neg this, dec_big h10]
          simp

theorem digits_nat (f u : Nat) (hf : 20 < f) (hu : u < 10 ^ 17) (γ : Type) (K : Ex → Int → ByteArray → Option γ) :
    Sp.ref01_Digits_L0 f (u : Int) (bs []) γ K = K (.exit 0) 0 (mk (Lib.decDigits u)) := by
  obtain ⟨f, rfl⟩ : ∃ g, f = g + 1 := ⟨f - 1, by omega⟩
  have e : bs [] = mk [] := rfl
  rw [e, digits_round f u [] γ K (by omega) (by simp) (Or.inr rfl)]
  rw [digits_loop 17 f (u / 10) _ γ K (by omega) (by omega) (by omega) (by simp) (by simp)]
  by_cases h10 : u < 10
  · have : u / 10 = 0 := by omega
    have h11 : u % 10 = u := by omega
    simp [this, h11, Lib.decDigits_one h10]
  · have : u / 10 ≠ 0 := by omega
    rw [if_neg this, dec_big h10]

theorem decDigits_short (u : Nat) (hu : u < 10 ^ 17) : (Lib.decDigits u).length ≤ 100 := by
  have : ∀ (k u : Nat), u < 10 ^ k → (Lib.decDigits u).length ≤ k + 1 := by
    intro k
    induction k with
    | zero =>
      intro u hu
      have : u < 10 := by simp at hu; omega
      rw [Lib.decDigits, dif_pos this]; simp
    | succ k ih =>
      intro u hu
      rw [Lib.decDigits]
      split
      · simp
      · have := ih (u / 10) (by rw [Nat.pow_succ] at hu; omega)
        simp; omega
  have := this 17 u hu
  omega

theorem ref01_Digits_eq (n : Int) (hn : -9007199254740991 ≤ n ∧ n ≤ 9007199254740991) (γ : Type) (K : ByteArray → Option γ) : Sp.ref01_Digits fuel n γ K = K (mk (Lib.itoa n)) := by
  have hb : ∀ (f : Nat) (u : Nat) (γ : Type) (K : ByteArray → Option γ), u < 10 ^ 17 → Sp.ref01_Digits (f + 1) (u : Int) γ K = K (mk (Lib.decDigits u)) := by
    intro f u γ K hu
    rw [Sp.ref01_Digits]
    unfold Sp.B_ref01_Digits
    have h0 : ¬ ((u : Int) < 0) := by omega
    have := digits_nat fuel u (by decide) hu γ
    simp only [h0, decide_false, cond_false]
    rw [this]
    simp [Ex.isExit]
  have hf : fuel = 18446744073709551614 + 1 + 1 := rfl
  by_cases h : n < 0
  · rw [hf, Sp.ref01_Digits]
    unfold Sp.B_ref01_Digits
    have hw : IntKind.wrap .i64 (0 - n) = ((n.natAbs : Nat) : Int) := by rw [wrap_i64 (by omega)]; omega
    simp only [h, decide_true, cond_true, hw]
    have h17 : n.natAbs < 10 ^ 17 := by omega
    rw [hb _ _ _ _ h17]
    have hl := decDigits_short n.natAbs h17
    have h2 : 1 + (mk (Lib.decDigits n.natAbs)).size ≤ 1152921504606846976 := by rw [size_mk]; omega
    simp only [h2, decide_true, cond_true]
    rw [show bs [45] ++ mk (Lib.decDigits n.natAbs) = mk (Lib.itoa n) by rw [bs_mk, mk_append]; simp [Lib.itoa, h]]
  · obtain ⟨u, rfl⟩ : ∃ u : Nat, n = (u : Int) := ⟨n.toNat, by omega⟩
    rw [hf, hb _ _ _ _ (by omega)]
    have hi : Lib.itoa (u : Int) = Lib.decDigits u := by
      unfold Lib.itoa
      rw [if_neg h]
      rfl
    rw [hi]

theorem value_Show_eq (k n : Int) (s : ByteArray) (hs : s.size ≤ 5000) (γ : Type) (K : Bool → Option γ) :
    (Sp.value_Show k n s γ fun x => Sp.ref01_Show k n s γ fun y => K (decide (x = y))) = K true := by
  unfold Sp.value_Show Sp.B_value_Show Sp.ref01_Show Sp.B_ref01_Show
  simp only [value_Check_eq, ref01_Check_eq]
  cases hok : V.ok k n s with
  | false => simp
  | true =>
    simp only [cond_true, decide_true, Bool.not_true, cond_false]
    by_cases h0 : k = 0
    · simp [h0]
    by_cases h1 : k = 1
    · subst h1
      by_cases h2 : n = 1
      · subst h2; simp
      · simp [h2]
    by_cases h2 : k = 2
    · subst h2
      have hr : -9007199254740991 ≤ n ∧ n ≤ 9007199254740991 := by
        simp [V.ok] at hok
        exact ⟨hok.1.1, hok.1.2⟩
      have h3 : -9223372036854775808 ≤ n := by omega
      have h4 : n ≤ 9223372036854775807 := by omega
      simp only [ref01_Digits_eq n hr]
      simp [Sp.strconv_Itoa, h3, h4, mk]
    · have h3 : k = 3 := by
        simp only [V.ok, h0, h1, h2, decide_false, Bool.false_and, Bool.or_false, Bool.false_or] at hok
        simp at hok
        exact hok.1.1
      subst h3
      obtain ⟨l, rfl⟩ := exists_mk s
      have hl : l.length ≤ 5000 := by simpa using hs
      have hloop := show_loop l fuel [39] l 0 3 n γ
      have e39 : bs [39] = mk [39] := rfl
      simp only [e39]
      have hf : l.length < fuel := by unfold fuel; omega
      have hloop := fun K => hloop K rfl hf hl (by simp) (by omega)
      have z0 : ((0 : Nat) : Int) = 0 := rfl
      rw [z0] at hloop
      simp only [hloop]
      have hc : Lib.countB (mk l) (mk [39]) ≤ l.length + 1 := by
        have := Lib.count_le l [39]
        simpa [Lib.countB] using this
      have hsz : (mk l).size + Lib.countB (mk l) (mk [39]) * (bs [39, 39]).size ≤ 140737488355328 := by
        have : (bs [39, 39]).size = 2 := rfl
        rw [this, size_mk]; omega
      have hd := dbl_length l
      have r0 : (decide ((mk l).size < 4294967281) && decide (1 ≤ (mk [39]).size) && decide ((mk l).size + Lib.countB (mk l) (mk [39]) * (bs [39, 39]).size ≤ 140737488355328)) = true := by
        simp only [Bool.and_eq_true, decide_eq_true_eq]
        exact ⟨⟨by simp; omega, by simp⟩, hsz⟩
      have r1 : (⟨(Lib.replaceAll (mk l).data.toList (mk [39]).data.toList (bs [39, 39]).data.toList).toArray⟩ : ByteArray) = mk (dbl l) := by
        rw [data_mk, data_mk]
        show mk (Lib.replaceAll l [39] [39, 39]) = _
        rw [replaceAll_dbl]
      simp only [h0, h1, h2, decide_true, decide_false, cond_true, cond_false, Sp.strings_ReplaceAll]
      rw [r0, cond_true, r1]
      simp only [size_mk, mk_append, Ex.isExit]
      have g1 : 1 + (dbl l).length ≤ 1152921504606846976 := by omega
      have g2 : ([39] ++ dbl l).length + 1 ≤ 1152921504606846976 := by simp; omega
      have g3 : (dbl l).length ≤ 1152921504606846974 := by omega
      simp [g1, g3]

theorem makes (k n : Int) (s : ByteArray) (b : Bool) (n' : Int) (s' : ByteArray) (γ : Type) (K : Bool → Option γ) : Sp.law01_ValueMakes k n s b n' s' γ K = K true := by
  unfold Sp.law01_ValueMakes Sp.B_law01_ValueMakes
  simp only [law01_lives_eq, ref01_Check_eq, value_Check_eq]
  by_cases h1 : (5000 : Int) < Int.ofNat s'.size
  · simp only [h1, decide_true, cond_true]
  by_cases h2 : (5000 : Int) < Int.ofNat s.size
  · simp only [h1, h2, decide_true, decide_false, cond_true, cond_false]
  have hs : s.size ≤ 5000 := by
    have : ¬ (5000 : Int) < ((s.size : Nat) : Int) := h2
    omega
  have hshow := value_Show_eq k n s hs γ K
  have hb : ∀ (γ : Type) (K : Int → Int → ByteArray → Option γ), Sp.ref01_Bool b γ K = Sp.value_Bool b γ K := fun _ _ => rfl
  cases hok : V.ok k n s <;> cases b <;>
    simp only [h1, h2, decide_false, decide_true, cond_false, cond_true, Bool.not_true, Bool.not_false, Sp.value_Null, Sp.B_value_Null, Sp.value_Bool, Sp.B_value_Bool, Sp.ref01_Bool, Sp.B_ref01_Bool, Sp.value_Int, Sp.B_value_Int, Sp.ref01_Int, Sp.B_ref01_Int, Sp.value_Text, Sp.B_value_Text, Sp.ref01_Text, Sp.B_ref01_Text, Bool.and_self, hshow]
end Go.Proofs.YtchijfnciadkkaaDoor

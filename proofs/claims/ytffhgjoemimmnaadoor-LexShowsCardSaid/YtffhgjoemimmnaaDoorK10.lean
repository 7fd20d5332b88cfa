/- Tokens shown and read again. -/
import Derived.Test.YtffhgjoemimmnaaDoorK9
import Derived.Lib.SplitLaws
set_option linter.unusedVariables false
set_option linter.unusedSimpArgs false
namespace Go.Proofs.YtffhgjoemimmnaaDoor
open Go Go.Aev Go.RowKit

def dbl : List UInt8 → List UInt8
  | [] => []
  | c :: l => if c = 39 then 39 :: 39 :: dbl l else c :: dbl l

theorem dbl_length : ∀ l, (dbl l).length ≤ 2 * l.length
  | [] => by simp [dbl]
  | c :: l => by
    have := dbl_length l
    unfold dbl
    split <;> simp <;> omega
theorem dbl_append : ∀ a b, dbl (a ++ b) = dbl a ++ dbl b
  | [], b => rfl
  | c :: a, b => by
    simp only [List.cons_append, dbl, dbl_append a b]
    split <;> simp

theorem replaceK_dbl : ∀ l : List UInt8, Lib.replaceK [39] [39, 39] (Lib.count l [39]) l = dbl l
  | [] => by
    have : Lib.count ([] : List UInt8) [39] = 0 := by rw [Lib.count_one]; rfl
    rw [this]; rfl
  | c :: l => by
    have ih := replaceK_dbl l
    by_cases hc : c = 39
    · subst hc
      rw [Lib.count_cons_eq, Nat.add_comm]
      have h0 : Lib.index (39 :: l) [39] = ((0 : Nat) : Int) := by simp [Lib.index]
      rw [Lib.replaceK_hit _ _ _ _ 0 h0]
      simp only [List.take_zero, List.nil_append, List.length_singleton, Nat.zero_add, List.drop_one, List.tail_cons, ih, dbl]
      rfl
    · rw [Lib.count_cons_ne c 39 l hc]
      have hne : List.isPrefixOf [39] (c :: l) = false := by
        simp [List.isPrefixOf]
        exact fun h => hc h.symm
      cases hn : Lib.count l [39] with
      | zero =>
        rw [hn] at ih
        show c :: l = dbl (c :: l)
        simp only [dbl, if_neg hc]
        rw [← ih]
        rfl
      | succ k =>
        obtain ⟨i, hi⟩ := Lib.index_of_count (s := l) (old := [39]) (by omega)
        have hi' : Lib.index (c :: l) [39] = ((i + 1 : Nat) : Int) := by
          rw [Lib.index, hne]
          rw [hi]
          have : ((i : Int) == -1) = false := by
            rw [beq_eq_false_iff_ne]; omega
          simp [this]
        rw [Lib.replaceK_hit _ _ _ _ (i + 1) hi']
        rw [hn, Lib.replaceK_hit _ _ _ _ i hi] at ih
        simp only [dbl, if_neg hc, ← ih]
        simp
theorem replaceAll_dbl (l : List UInt8) : Lib.replaceAll l [39] [39, 39] = dbl l := by
  unfold Lib.replaceAll Lib.replace Lib.replaceNum
  rw [if_neg (by decide), if_pos (Or.inl (by decide))]
  exact replaceK_dbl l


/-- a token as it stands in a text -/
def shownT (k : Int) (s : List UInt8) : List UInt8 := if k = 4 then 39 :: (dbl s ++ [39]) else s

theorem dbl_len : ∀ s : List UInt8, s.length ≤ (dbl s).length
  | [] => Nat.le_refl _
  | c :: s => by
    have := dbl_len s
    by_cases h : c = 39 <;> simp [dbl, h] <;> omega
theorem shownT_len (k : Int) (s : List UInt8) : s.length ≤ (shownT k s).length := by
  unfold shownT
  have := dbl_len s
  split
  · simp; omega
  · exact Nat.le_refl _

theorem textL_shown : ∀ (r t : List UInt8) (n : Nat), textL r = some (t, n) → r.take n = dbl t ++ [39]
  | [], t, n, h => by cases h
  | [c], t, n, h => by
    unfold textL at h
    cases hc : c == 39 with
    | false => rw [hc] at h; cases h
    | true =>
      rw [hc] at h
      cases h
      have : c = 39 := by simpa using hc
      subst this
      rfl
  | c :: d :: r, t, n, h => by
    unfold textL at h
    cases hc : c == 39 with
    | true =>
      have : c = 39 := by simpa using hc
      subst this
      rw [hc, cond_true] at h
      cases hd : d == 39 with
      | true =>
        have : d = 39 := by simpa using hd
        subst this
        rw [hd, cond_true, Option.map_eq_some_iff] at h
        obtain ⟨⟨t', n'⟩, h1, h2⟩ := h
        cases h2
        rw [List.take_succ_cons, List.take_succ_cons, textL_shown r t' n' h1]
        simp [dbl]
      | false =>
        rw [hd, cond_false] at h
        cases h
        rfl
    | false =>
      rw [hc, cond_false, Option.map_eq_some_iff] at h
      obtain ⟨⟨t', n'⟩, h1, h2⟩ := h
      cases h2
      have hne : c ≠ 39 := by simpa using hc
      rw [List.take_succ_cons, textL_shown (d :: r) t' n' h1]
      simp [dbl, hne]

theorem ci_39 {c : UInt8} (h : ci c = 39) : c = 39 := by
  have : c.toNat = 39 := by
    have h' : (c.toNat : Int) = 39 := h
    omega
  exact UInt8.toNat_inj.1 this

theorem nextR_shown {r : List UInt8} {t : Tk} (h : nextR r = some t) : r.take t.m = shownT t.k t.s := by
  unfold nextR at h
  split at h
  · cases h
  · rename_i c r'
    split at h
    · rename_i h1
      split at h
      · rename_i t' n hx
        split at h
        · cases h
          rw [List.take_succ_cons, textL_shown _ _ _ hx, ci_39 h1]
          rfl
        · cases h
      · cases h
    · split at h
      · split at h
        · cases h
          rfl
        · cases h
      · split at h
        · split at h
          · cases h
            unfold shownT
            have hb : ∀ b : Bool, ¬ (cond b (2 : Int) 1 = 4) := by decide
            rw [if_neg (hb _)]
          · cases h
        · rw [Option.map_eq_some_iff] at h
          obtain ⟨g, hg, rfl⟩ := h
          have hp := List.isPrefixOf_iff_prefix.1 (signOf_mem hg).2
          exact (List.prefix_iff_eq_take.1 hp).symm

/-- tokens, a blank behind each -/
def J : List T → List UInt8
  | [] => []
  | t :: ts => shownT t.k t.s ++ 32 :: J ts

theorem follows_sp {r q : List UInt8} {m : Nat} (hm : m ≤ r.length) : Follows r (r.take m ++ 32 :: q) m := by
  have hl : (r.take m).length = m := by rw [List.length_take]; omega
  refine ⟨?_, hm, by rw [List.length_append, hl]; omega, .inr ⟨32, ?_, .inr rfl⟩⟩
  · have := List.take_left (l₁ := r.take m) (l₂ := 32 :: q)
    rw [hl] at this
    exact this
  · have : (r.take m ++ 32 :: q).drop (r.take m).length = 32 :: q := List.drop_left
    rw [hl] at this
    rw [this]; rfl

theorem skp_follows {r r' : List UInt8} {m : Nat} (hf : Follows r r' m) (hm : 1 ≤ m) (h : skp r = 0) : skp r' = 0 := by
  cases r with
  | nil => have := hf.2.1; simp at this; omega
  | cons a q0 =>
    obtain ⟨q1, rfl⟩ := head_follows hf hm rfl
    rw [skp_cons] at h
    cases hr : remark (a :: q0) with
    | true =>
      rw [hr, cond_true] at h
      have := remark_line hr
      omega
    | false =>
      rw [hr, cond_false] at h
      cases hb : blank a with
      | true => rw [hb] at h; simp at h
      | false =>
        rw [skp_cons, hb]
        cases hr' : remark (a :: q1) with
        | false => rfl
        | true =>
          exfalso
          unfold remark at hr'
          split at hr'
          · rename_i x hx
            cases hx
            have key : ∀ y, q0 ≠ 45 :: y := by
              intro y hy
              subst hy
              simp [remark] at hr
            obtain ⟨f1, f2, f3, f4⟩ := hf
            rcases Nat.lt_or_ge 1 m with h2 | h2
            · obtain ⟨k, rfl⟩ : ∃ k, m = k + 2 := ⟨m - 2, by omega⟩
              cases q0 with
              | nil => simp at f2
              | cons z q2 =>
                simp at f1
                exact key q2 (by rw [← f1.1])
            · have : m = 1 := by omega
              subst this
              rcases f4 with f4 | ⟨c, hc, hs⟩
              · cases q0 with
                | nil => simp at f4
                | cons z q2 =>
                  simp at f4
                  exact key q2 (by rw [← f4])
              · simp at hc
                subst hc
                rcases hs with h | h <;> cases h
          · cases hr'

theorem skp_sp (q : List UInt8) : skp (32 :: q) = skp q + 1 := by
  rw [skp_cons]
  have : remark (32 :: q) = false := by
    unfold remark
    split
    · rename_i h; cases h
    · rfl
  rw [this]
  rfl

theorem relex : ∀ (n : Nat) (r : List UInt8) (i c p : Nat) (ts : List T), r.length ≤ n → skp r = 0 → lexR n r i c = (0, p, ts) →
    skp (J ts) = 0 ∧ (J ts).length ≤ r.length + ts.length ∧ ts.length ≤ r.length ∧ (∀ t ∈ ts, t.s.length ≤ r.length) ∧
    ∀ (m i' c' : Nat), (J ts).length ≤ m → c' + ts.length ≤ 4096 → ∃ p' ts', lexR m (J ts) i' c' = (0, p', ts') ∧ ts'.map (fun t => (t.k, t.s, t.n)) = ts.map fun t => (t.k, t.s, t.n)
  | n, [], i, c, p, ts, hn, hs, h => by
    have : ts = [] := by cases n <;> (simp [lexR] at h; exact h.2)
    subst this
    refine ⟨rfl, Nat.le_refl _, Nat.le_refl _, fun t ht => (by cases ht), fun m i' c' _ _ => ⟨i', [], ?_, rfl⟩⟩
    cases m <;> simp [lexR, J]
  | 0, a :: r, i, c, p, ts, hn, hs, h => by simp at hn
  | n + 1, a :: r0, i, c, p, ts, hn, hs, h => by
    generalize hr : a :: r0 = r at hn hs h
    have hne : r ≠ [] := by rw [← hr]; simp
    rw [lexR, if_neg hne] at h
    cases ht : nextR r with
    | none => rw [ht] at h; simp at h
    | some t =>
      rw [ht] at h
      have htm := nextR_le ht
      have hsh := nextR_shown ht
      simp only at h
      by_cases h4 : 4096 ≤ c
      · rw [if_pos h4] at h; simp at h
      · rw [if_neg h4] at h
        have hk := skp_le (r.drop t.m)
        cases hq : lexR n ((r.drop t.m).drop (skp (r.drop t.m))) (i + t.m + skp (r.drop t.m)) (c + 1) with
        | mk e pt =>
          obtain ⟨p', ts'⟩ := pt
          rw [hq] at h
          simp only [Prod.mk.injEq] at h
          obtain ⟨rfl, rfl, rfl⟩ := h
          obtain ⟨g1, g2, g3, g4, g5⟩ := relex n _ _ _ _ _ (by rw [List.length_drop, List.length_drop]; omega) (skp_idem (r.drop t.m).length (r.drop t.m) (Nat.le_refl _)) hq
          rw [List.length_drop, List.length_drop] at g2 g3 g4
          have hJ : J (⟨t.k, t.s, t.n, i⟩ :: ts') = r.take t.m ++ 32 :: J ts' := by rw [hsh]; rfl
          have hf : Follows r (r.take t.m ++ 32 :: J ts') t.m := follows_sp htm.2
          have htl : (r.take t.m).length = t.m := by rw [List.length_take]; omega
          rw [hJ]
          refine ⟨skp_follows hf htm.1 hs, ?_, ?_, ?_, ?_⟩
          · simp only [List.length_append, List.length_cons, htl]; omega
          · simp only [List.length_cons]; omega
          · intro x hx
            rcases List.mem_cons.1 hx with rfl | hx
            · have := shownT_len t.k t.s
              rw [← hsh, htl] at this
              show t.s.length ≤ r.length
              omega
            · have := g4 x hx; omega
          · intro m i' c' hm hc
            simp only [List.length_append, List.length_cons, htl] at hm hc
            obtain ⟨m, rfl⟩ : ∃ k, m = k + 1 := ⟨m - 1, by omega⟩
            rw [lexR, if_neg (by simp), next_follows ht hf]
            simp only
            rw [if_neg (by omega)]
            have hd : (r.take t.m ++ 32 :: J ts').drop t.m = 32 :: J ts' := by
              have : (r.take t.m ++ 32 :: J ts').drop (r.take t.m).length = 32 :: J ts' := List.drop_left
              rw [htl] at this
              exact this
            rw [hd, skp_sp, g1, List.drop_succ_cons, List.drop_zero]
            obtain ⟨p2, ts2, k1, k2⟩ := g5 m (i' + t.m + (0 + 1)) (c' + 1) (by omega) (by omega)
            rw [k1]
            exact ⟨_, _, rfl, by simp [k2]⟩
termination_by n => n
end Go.Proofs.YtffhgjoemimmnaaDoor

/- Two texts behind each other. -/
import Derived.Test.YtffhgjoemimmnaaDoorK7
set_option linter.unusedVariables false
set_option linter.unusedSimpArgs false
namespace Go.Proofs.YtffhgjoemimmnaaDoor
open Go Go.Aev Go.RowKit

theorem skipN_nil (n : Nat) : skipN n [] = 0 := by cases n <;> rfl

theorem skipN_fuel : ∀ (n m : Nat) (r : List UInt8), r.length ≤ n → r.length ≤ m → skipN n r = skipN m r
  | n, m, [], _, _ => by rw [skipN_nil, skipN_nil]
  | 0, m, c :: r, h, _ => by simp at h
  | n + 1, 0, c :: r, _, h => by simp at h
  | n + 1, m + 1, c :: r, h1, h2 => by
    simp only [List.length_cons] at h1 h2
    unfold skipN
    cases hr : remark (c :: r) with
    | true =>
      have h3 := remark_line hr
      rw [cond_true, cond_true, skipN_fuel n m _ (by rw [List.length_drop, List.length_cons]; omega) (by rw [List.length_drop, List.length_cons]; omega)]
    | false => rw [cond_false, cond_false, skipN_fuel n m r (by omega) (by omega)]

theorem skp_cons (c : UInt8) (r : List UInt8) : skp (c :: r) = cond (remark (c :: r)) (lineN (c :: r) + skp ((c :: r).drop (lineN (c :: r)))) (cond (blank c) (skp r + 1) 0) := by
  unfold skp
  rw [List.length_cons, skipN]
  cases hr : remark (c :: r) with
  | true =>
    have h3 := remark_line hr
    rw [cond_true, cond_true, skipN_fuel r.length ((c :: r).drop (lineN (c :: r))).length _ (by rw [List.length_drop, List.length_cons]; omega) (Nat.le_refl _)]
  | false => rfl

theorem lineN_app (q : List UInt8) : ∀ r : List UInt8, lineN (r ++ 10 :: q) = lineN r
  | [] => rfl
  | c :: r => by
    rw [List.cons_append]
    unfold lineN
    rw [lineN_app q r]

theorem skp_nl (q : List UInt8) : skp (10 :: q) = 1 + skp q := by
  rw [skp_cons]
  have : remark (10 :: q) = false := by
    unfold remark
    split
    · rename_i h; cases h
    · rfl
  rw [this]
  show skp q + 1 = _
  omega

theorem remark_app (q : List UInt8) (c : UInt8) (r : List UInt8) : remark (c :: (r ++ 10 :: q)) = remark (c :: r) := by
  cases r with
  | nil =>
    have h1 : remark [c] = false := by
      unfold remark
      split
      · rename_i h; cases h
      · rfl
    rw [h1]
    unfold remark
    split
    · rename_i h; cases h
    · rfl
  | cons d r => 
    rw [List.cons_append]
    by_cases h : c = 45 ∧ d = 45
    · obtain ⟨rfl, rfl⟩ := h; rfl
    · have h1 : ∀ x : List UInt8, remark (c :: d :: x) = false := by
        intro x
        unfold remark
        split
        · rename_i hh; cases hh; exact absurd ⟨rfl, rfl⟩ h
        · rfl
      rw [h1, h1]

theorem skp_join (q : List UInt8) : ∀ (n : Nat) (r : List UInt8), r.length ≤ n → skp (r ++ 10 :: q) = if skp r = r.length then r.length + 1 + skp q else skp r
  | _, [], _ => by
    rw [List.nil_append, skp_nl, if_pos (show skp [] = ([] : List UInt8).length from rfl)]
    simp
  | 0, c :: r, h => by simp at h
  | n + 1, c :: r, h => by
    simp only [List.length_cons] at h
    rw [List.cons_append, skp_cons, skp_cons, remark_app]
    cases hr : remark (c :: r) with
    | true =>
      have h3 := remark_line hr
      have h4 := lineN_le (c :: r)
      rw [cond_true, cond_true]
      have h5 : lineN (c :: (r ++ 10 :: q)) = lineN (c :: r) := by
        rw [← List.cons_append]; exact lineN_app q (c :: r)
      rw [h5]
      have h6 : (c :: (r ++ 10 :: q)).drop (lineN (c :: r)) = (c :: r).drop (lineN (c :: r)) ++ 10 :: q := by
        rw [← List.cons_append, List.drop_append_of_le_length h4]
      rw [h6, skp_join q n _ (by rw [List.length_drop, List.length_cons]; omega)]
      have hl : ((c :: r).drop (lineN (c :: r))).length = (c :: r).length - lineN (c :: r) := List.length_drop
      rw [hl]
      generalize skp ((c :: r).drop (lineN (c :: r))) = k
      by_cases hk : k = (c :: r).length - lineN (c :: r)
      · rw [if_pos hk, if_pos (by omega)]; omega
      · rw [if_neg hk, if_neg (by omega)]
    | false =>
      rw [cond_false, cond_false]
      cases blank c with
      | true =>
        rw [cond_true, cond_true, skp_join q n r (by omega), List.length_cons]
        by_cases hk : skp r = r.length
        · rw [if_pos hk, if_pos (by omega)]; omega
        · rw [if_neg hk, if_neg (by omega)]
      | false =>
        rw [cond_false, cond_false, if_neg (by simp)]

theorem skp_idem : ∀ (n : Nat) (r : List UInt8), r.length ≤ n → skp (r.drop (skp r)) = 0
  | _, [], _ => rfl
  | 0, c :: r, h => by simp at h
  | n + 1, c :: r, h => by
    simp only [List.length_cons] at h
    rw [skp_cons]
    cases hr : remark (c :: r) with
    | true =>
      have h3 := remark_line hr
      rw [cond_true, ← List.drop_drop]
      exact skp_idem n _ (by rw [List.length_drop, List.length_cons]; omega)
    | false =>
      rw [cond_false]
      cases hb : blank c with
      | true =>
        rw [cond_true, List.drop_succ_cons]
        exact skp_idem n r (by omega)
      | false =>
        rw [cond_false, List.drop_zero, skp_cons, hr, hb]; rfl

theorem lexR_fuel : ∀ (n m : Nat) (r : List UInt8) (i c : Nat), r.length ≤ n → r.length ≤ m → lexR n r i c = lexR m r i c
  | n, m, [], i, c, _, _ => by
    have : ∀ n, lexR n [] i c = (0, i, []) := fun n => by cases n <;> simp [lexR]
    rw [this, this]
  | 0, m, a :: r, i, c, h, _ => by simp at h
  | n + 1, 0, a :: r, i, c, _, h => by simp at h
  | n + 1, m + 1, a :: r, i, c, h1, h2 => by
    rw [lexR, lexR, if_neg (by simp), if_neg (by simp)]
    cases ht : nextR (a :: r) with
    | none => rfl
    | some t =>
      have hm := nextR_le ht
      simp only [List.length_cons] at h1 h2
      simp only
      rw [lexR_fuel n m _ _ _ (by rw [List.length_drop, List.length_drop, List.length_cons]; omega) (by rw [List.length_drop, List.length_drop, List.length_cons]; omega)]

theorem follows_app {r q : List UInt8} {m : Nat} (hm : m ≤ r.length) : Follows r (r ++ 10 :: q) m := by
  refine ⟨List.take_append_of_le_length hm, hm, by simp; omega, ?_⟩
  rw [List.drop_append_of_le_length hm]
  cases r.drop m with
  | nil => exact .inr ⟨10, rfl, .inl rfl⟩
  | cons a b => exact .inl rfl

theorem lexR_join (q : List UInt8) : ∀ (n : Nat) (r : List UInt8) (i c p : Nat) (ts : List T) (m m2 : Nat), r.length ≤ n → skp r = 0 → lexR n r i c = (0, p, ts) → (r ++ 10 :: q).length ≤ m → q.length ≤ m2 →
    lexR m ((r ++ 10 :: q).drop (skp (r ++ 10 :: q))) (i + skp (r ++ 10 :: q)) c =
      ((lexR m2 (q.drop (skp q)) (i + r.length + 1 + skp q) (c + ts.length)).1, (lexR m2 (q.drop (skp q)) (i + r.length + 1 + skp q) (c + ts.length)).2.1, ts ++ (lexR m2 (q.drop (skp q)) (i + r.length + 1 + skp q) (c + ts.length)).2.2) := by
  intro n
  have nilCase : ∀ (i c p : Nat) (ts : List T) (m m2 : Nat), ts = [] → (10 :: q).length ≤ m → q.length ≤ m2 → lexR m ((10 :: q).drop (skp (10 :: q))) (i + skp (10 :: q)) c =
      ((lexR m2 (q.drop (skp q)) (i + 0 + 1 + skp q) (c + ts.length)).1, (lexR m2 (q.drop (skp q)) (i + 0 + 1 + skp q) (c + ts.length)).2.1, ts ++ (lexR m2 (q.drop (skp q)) (i + 0 + 1 + skp q) (c + ts.length)).2.2) := by
    intro i c p ts m m2 hts hm hm2
    subst hts
    rw [skp_nl, show 1 + skp q = skp q + 1 by omega, List.drop_succ_cons]
    rw [lexR_fuel m m2 _ _ _ (by rw [List.length_drop]; simp at hm; omega) (by rw [List.length_drop]; omega)]
    rw [show i + (skp q + 1) = i + 0 + 1 + skp q by omega]
    simp
  induction n with
  | zero =>
    intro r i c p ts m m2 hn hs hl hm hm2
    cases r with
    | nil =>
      have : ts = [] := by simp [lexR] at hl; exact hl.2
      exact nilCase i c p ts m m2 this hm hm2
    | cons a r => simp at hn
  | succ n ih =>
    intro r i c p ts m m2 hn hs hl hm hm2
    cases hr : r with
    | nil =>
      rw [hr] at hl hm
      have : ts = [] := by simp [lexR] at hl; exact hl.2
      exact nilCase i c p ts m m2 this hm hm2
    | cons a r0 =>
      rw [← hr]
      have hne : r ≠ [] := by rw [hr]; simp
      have hlen : 0 < r.length := by rw [hr]; simp
      have h0 : skp (r ++ 10 :: q) = 0 := by
        rw [skp_join q r.length r (Nat.le_refl _), hs, if_neg (by omega)]
      rw [h0, List.drop_zero, Nat.add_zero]
      rw [lexR, if_neg hne] at hl
      cases ht : nextR r with
      | none => rw [ht] at hl; simp at hl
      | some t =>
        rw [ht] at hl
        have htm := nextR_le ht
        simp only at hl
        by_cases hc : 4096 ≤ c
        · rw [if_pos hc] at hl; simp at hl
        · rw [if_neg hc] at hl
          obtain ⟨m, rfl⟩ : ∃ k, m = k + 1 := ⟨m - 1, by simp at hm; omega⟩
          simp only [List.length_append, List.length_cons] at hm
          rw [lexR, if_neg (by simp), next_follows ht (follows_app htm.2)]
          simp only
          rw [if_neg hc, List.drop_append_of_le_length htm.2]
          generalize hr1 : r.drop t.m = r1 at hl ⊢
          have hl1 : r1.length = r.length - t.m := by rw [← hr1, List.length_drop]
          have hk := skp_le r1
          cases hq : lexR n (r1.drop (skp r1)) (i + t.m + skp r1) (c + 1) with
          | mk e pt =>
            obtain ⟨p', ts'⟩ := pt
            rw [hq] at hl
            simp only [Prod.mk.injEq] at hl
            obtain ⟨rfl, rfl, rfl⟩ := hl
            have hrec := ih (r1.drop (skp r1)) (i + t.m + skp r1) (c + 1) p' ts' m m2 (by rw [List.length_drop]; omega) (skp_idem r1.length r1 (Nat.le_refl _)) hq (by rw [List.length_append, List.length_drop, List.length_cons]; omega) hm2
            have hkk : skp (r1 ++ 10 :: q) = skp r1 + skp (r1.drop (skp r1) ++ 10 :: q) ∧ (r1 ++ 10 :: q).drop (skp r1) = r1.drop (skp r1) ++ 10 :: q := by
              refine ⟨?_, List.drop_append_of_le_length hk⟩
              rw [skp_join q r1.length r1 (Nat.le_refl _), skp_join q r1.length (r1.drop (skp r1)) (by rw [List.length_drop]; omega), skp_idem r1.length r1 (Nat.le_refl _), List.length_drop]
              by_cases hx : skp r1 = r1.length
              · rw [if_pos hx, if_pos (by omega)]; omega
              · rw [if_neg hx, if_neg (by omega)]; rfl
            have hd : (r1 ++ 10 :: q).drop (skp (r1 ++ 10 :: q)) = (r1.drop (skp r1) ++ 10 :: q).drop (skp (r1.drop (skp r1) ++ 10 :: q)) := by
              rw [hkk.1, ← List.drop_drop, hkk.2]
            rw [hd, hkk.1, show i + t.m + (skp r1 + skp (r1.drop (skp r1) ++ 10 :: q)) = i + t.m + skp r1 + skp (r1.drop (skp r1) ++ 10 :: q) by omega, hrec]
            have hpos : i + t.m + skp r1 + (r1.drop (skp r1)).length + 1 + skp q = i + r.length + 1 + skp q := by rw [List.length_drop]; omega
            have hcnt : c + 1 + ts'.length = c + (⟨t.k, t.s, t.n, i⟩ :: ts' : List T).length := by rw [List.length_cons]; omega
            rw [hpos, hcnt]
            rfl

/-- the same, seen from elsewhere -/
def shift (k : Nat) (t : T) : T := { t with at_ := t.at_ + k }

theorem lexR_shift (k : Nat) : ∀ (n : Nat) (r : List UInt8) (i c p c' : Nat) (ts : List T), lexR n r i c = (0, p, ts) → c' + ts.length ≤ 4096 → lexR n r (i + k) c' = (0, p + k, ts.map (shift k))
  | 0, r, i, c, p, c', ts, h, hc => by
    simp [lexR] at h
    obtain ⟨rfl, rfl⟩ := h
    rfl
  | n + 1, r, i, c, p, c', ts, h, hc => by
    rw [lexR] at h ⊢
    by_cases hr : r = []
    · rw [if_pos hr] at h ⊢
      simp at h
      obtain ⟨rfl, rfl⟩ := h
      rfl
    · rw [if_neg hr] at h ⊢
      cases ht : nextR r with
      | none => rw [ht] at h; simp at h
      | some t =>
        rw [ht] at h
        simp only at h ⊢
        by_cases h4 : 4096 ≤ c
        · rw [if_pos h4] at h; simp at h
        · rw [if_neg h4] at h
          cases hq : lexR n ((r.drop t.m).drop (skp (r.drop t.m))) (i + t.m + skp (r.drop t.m)) (c + 1) with
          | mk e pt =>
            obtain ⟨p', ts'⟩ := pt
            rw [hq] at h
            simp only [Prod.mk.injEq] at h
            obtain ⟨rfl, rfl, rfl⟩ := h
            simp only [List.length_cons] at hc
            rw [if_neg (by omega), show i + k + t.m + skp (r.drop t.m) = i + t.m + skp (r.drop t.m) + k by omega, lexR_shift k n _ _ _ _ (c' + 1) _ hq (by omega)]
            rfl

/-- what a good text comes to -/
def Good (l : List UInt8) (ts : List T) : Prop := (∃ p, lexR l.length (l.drop (skp l)) (skp l) 0 = (0, p, ts)) ∧ ts.length < 4096

theorem good_lexAll {l : List UInt8} {ts : List T} (h : Good l ts) : lexAll l = (ts ++ [⟨6, [], 0, l.length⟩], l.length, 0) := by
  obtain ⟨⟨p, h1⟩, h2⟩ := h
  unfold lexAll fin
  rw [h1]
  simp only [List.nil_append, if_true]
  rw [if_neg (by omega)]

theorem lexR_err : ∀ (n : Nat) (r : List UInt8) (i c : Nat), (lexR n r i c).1 = 0 ∨ (lexR n r i c).1 = 90 ∨ (lexR n r i c).1 = 3
  | 0, _, _, _ => .inl rfl
  | n + 1, r, i, c => by
    rw [lexR]
    by_cases hr : r = []
    · rw [if_pos hr]; exact .inl rfl
    · rw [if_neg hr]
      cases nextR r with
      | none => exact .inr (.inl rfl)
      | some t =>
        simp only
        by_cases h : 4096 ≤ c
        · rw [if_pos h]; exact .inr (.inr rfl)
        · rw [if_neg h]; exact lexR_err n _ _ _

theorem lexAll_good {l : List UInt8} (h : (lexAll l).2.2 = 0) : ∃ ts, Good l ts := by
  unfold lexAll fin at h
  by_cases h0 : (lexR l.length (l.drop (skp l)) (skp l) 0).1 = 0
  · rw [if_pos h0] at h
    by_cases h1 : 4096 ≤ (([] : List T) ++ (lexR l.length (l.drop (skp l)) (skp l) 0).2.2).length
    · rw [if_pos h1] at h; simp at h
    · refine ⟨(lexR l.length (l.drop (skp l)) (skp l) 0).2.2, ⟨(lexR l.length (l.drop (skp l)) (skp l) 0).2.1, ?_⟩, by simpa using h1⟩
      rw [← h0]
  · rw [if_neg h0] at h
    exact absurd h h0

theorem good_join {s t : List UInt8} {ts tt : List T} (hs : Good s ts) (ht : Good t tt) (h : ts.length + tt.length < 4096) : Good (s ++ 10 :: t) (ts ++ tt.map (shift (s.length + 1))) := by
  obtain ⟨⟨p, h1⟩, _⟩ := hs
  obtain ⟨⟨p', h2⟩, _⟩ := ht
  have hk := skp_le s
  have hskp : skp (s ++ 10 :: t) = skp s + skp (s.drop (skp s) ++ 10 :: t) ∧ (s ++ 10 :: t).drop (skp s) = s.drop (skp s) ++ 10 :: t := by
    refine ⟨?_, List.drop_append_of_le_length hk⟩
    rw [skp_join t s.length s (Nat.le_refl _), skp_join t s.length (s.drop (skp s)) (by rw [List.length_drop]; omega), skp_idem s.length s (Nat.le_refl _), List.length_drop]
    by_cases hx : skp s = s.length
    · rw [if_pos hx, if_pos (by omega)]; omega
    · rw [if_neg hx, if_neg (by omega)]; rfl
  have hj := lexR_join t s.length (s.drop (skp s)) (skp s) 0 p ts (s ++ 10 :: t).length t.length (by rw [List.length_drop]; omega) (skp_idem s.length s (Nat.le_refl _)) h1 (by simp) (Nat.le_refl _)
  have hsh := lexR_shift (s.length + 1) t.length (t.drop (skp t)) (skp t) 0 p' (0 + ts.length) tt h2 (by omega)
  have hpos : skp s + (s.drop (skp s)).length + 1 + skp t = skp t + (s.length + 1) := by rw [List.length_drop]; omega
  rw [hpos, hsh] at hj
  refine ⟨⟨p' + (s.length + 1), ?_⟩, by simp; omega⟩
  have hd : (s ++ 10 :: t).drop (skp (s ++ 10 :: t)) = (s.drop (skp s) ++ 10 :: t).drop (skp (s.drop (skp s) ++ 10 :: t)) := by
    rw [hskp.1, ← List.drop_drop, hskp.2]
  rw [hd, hskp.1]
  exact hj
end Go.Proofs.YtffhgjoemimmnaaDoor

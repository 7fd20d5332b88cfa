/- Tokens in other surroundings. -/
import Derived.Test.YtffhgjoemimmnaaDoorK6
set_option linter.unusedVariables false
set_option linter.unusedSimpArgs false
namespace Go.Proofs.YtffhgjoemimmnaaDoor
open Go Go.Aev Go.RowKit

/-- a byte that parts tokens -/
def sep (c : UInt8) : Prop := c = 10 ∨ c = 32

/-- r' begins with the first m bytes of r, and goes on alike or with a byte that parts -/
def Follows (r r' : List UInt8) (m : Nat) : Prop :=
  r'.take m = r.take m ∧ m ≤ r.length ∧ m ≤ r'.length ∧ ((r'.drop m).head? = (r.drop m).head? ∨ ∃ c, (r'.drop m).head? = some c ∧ sep c)

theorem sep_isW {c : UInt8} (h : sep c) : isW c = false := by
  rcases h with rfl | rfl <;> decide

theorem follows_split {r r' : List UInt8} {m : Nat} (h : Follows r r' m) : r = r.take m ++ r.drop m ∧ r' = r.take m ++ r'.drop m := by
  refine ⟨(List.take_append_drop m r).symm, ?_⟩
  rw [← h.1]
  exact (List.take_append_drop m r').symm

theorem takeWhile_app {p : UInt8 → Bool} : ∀ {w q : List UInt8}, (∀ c ∈ w, p c = true) → (∀ c, q.head? = some c → p c = false) → (w ++ q).takeWhile p = w
  | [], [], _, _ => rfl
  | [], c :: q, _, h => by
    rw [List.nil_append, List.takeWhile_cons, if_neg (by rw [h c rfl]; simp)]
  | a :: w, q, h1, h2 => by
    rw [List.cons_append, List.takeWhile_cons, if_pos (h1 a (by simp)), takeWhile_app (fun c hc => h1 c (by simp [hc])) h2]

theorem take_run (r : List UInt8) : r.take (runN r) = r.takeWhile isW := by
  have h1 := List.takeWhile_append_dropWhile (p := isW) (l := r)
  have h2 : (r.takeWhile isW ++ r.dropWhile isW).take (r.takeWhile isW).length = r.takeWhile isW := List.take_left
  rw [h1] at h2
  exact h2

theorem drop_run_head {r : List UInt8} {c : UInt8} (h : (r.drop (runN r)).head? = some c) : isW c = false := by
  have e : r.drop (runN r) = r.dropWhile isW := by
    unfold runN
    have h1 := List.takeWhile_append_dropWhile (p := isW) (l := r)
    have : (r.takeWhile isW ++ r.dropWhile isW).drop (r.takeWhile isW).length = r.dropWhile isW := List.drop_left
    rw [h1] at this
    exact this
  rw [e] at h
  have := List.head?_dropWhile_not isW r
  rw [h] at this
  simpa using this

theorem run_follows {r r' : List UInt8} (h : Follows r r' (runN r)) : runN r' = runN r := by
  obtain ⟨_, h2⟩ := follows_split h
  have hh : ∀ c, (r'.drop (runN r)).head? = some c → isW c = false := by
    intro c hc
    rcases h.2.2.2 with he | ⟨d, hd, hs⟩
    · rw [he] at hc; exact drop_run_head hc
    · rw [hd] at hc; cases hc; exact sep_isW hs
  have : r'.takeWhile isW = r.takeWhile isW := by
    rw [h2, take_run]
    refine takeWhile_app (fun c hc => ?_) hh
    exact List.all_eq_true.1 (List.all_takeWhile (p := isW) (l := r)) c hc
  unfold runN
  rw [this]

theorem textL_follows : ∀ {r r' t : List UInt8} {n : Nat}, textL r = some (t, n) → Follows r r' n → textL r' = some (t, n)
  | [], r', t, n, h, _ => by cases h
  | [c], r', t, n, h, hf => by
    unfold textL at h
    cases hc : c == 39 with
    | false => rw [hc] at h; cases h
    | true =>
      rw [hc] at h
      cases h
      have hc : c = 39 := by simpa using hc
      subst hc
      obtain ⟨_, h2⟩ := follows_split hf
      rw [h2]
      have hh : ∀ d, (r'.drop 1).head? = some d → (d == 39) = false := by
        intro d hd
        rcases hf.2.2.2 with he | ⟨e, he, hs⟩
        · rw [he] at hd; cases hd
        · rw [he] at hd; cases hd
          rcases hs with rfl | rfl <;> rfl
      show textL (39 :: r'.drop 1) = _
      cases hq : r'.drop 1 with
      | nil => rfl
      | cons d q =>
        have := hh d (by rw [hq]; rfl)
        simp [textL, this]
  | c :: d :: r, r', t, n, h, hf => by
    unfold textL at h
    cases hc : c == 39 with
    | true =>
      rw [hc, cond_true] at h
      have hc : c = 39 := by simpa using hc
      subst hc
      cases hd : d == 39 with
      | true =>
        rw [hd, cond_true, Option.map_eq_some_iff] at h
        obtain ⟨⟨t', n'⟩, h1, h2⟩ := h
        cases h2
        have hd : d = 39 := by simpa using hd
        subst hd
        obtain ⟨_, hs⟩ := follows_split hf
        rw [List.take_succ_cons, List.take_succ_cons] at hs
        have hf' : Follows r (r'.drop 2) n' := by
          obtain ⟨f1, f2, f3, f4⟩ := hf
          refine ⟨?_, by simp only [List.length_cons] at f2; omega, by rw [List.length_drop]; omega, ?_⟩
          · have := congrArg (List.drop 2) f1
            rw [List.drop_take, List.drop_take] at this
            simpa using this
          · rw [List.drop_drop, show 2 + n' = n' + 2 by omega]
            simpa using f4
        have h3 := textL_follows h1 hf'
        have hr' : r' = 39 :: 39 :: r'.drop 2 := by
          have := congrArg (List.drop 2) hs
          simp only [List.cons_append, List.drop_succ_cons, List.drop_zero] at this
          rw [this]
          exact hs
        rw [hr']
        simp [textL, h3]
      | false =>
        rw [hd, cond_false] at h
        cases h
        obtain ⟨_, h2⟩ := follows_split hf
        have hh : ∀ e, (r'.drop 1).head? = some e → (e == 39) = false := by
          intro e he
          rcases hf.2.2.2 with hx | ⟨y, hy, hs⟩
          · rw [hx] at he; cases he; exact hd
          · rw [hy] at he; cases he
            rcases hs with rfl | rfl <;> rfl
        rw [h2]
        show textL (39 :: r'.drop 1) = _
        cases hq : r'.drop 1 with
        | nil => rfl
        | cons e q =>
          have := hh e (by rw [hq]; rfl)
          simp [textL, this]
    | false =>
      rw [hc, cond_false, Option.map_eq_some_iff] at h
      obtain ⟨⟨t', n'⟩, h1, h2⟩ := h
      cases h2
      have hn := textL_le _ _ _ h1
      obtain ⟨_, hs⟩ := follows_split hf
      have hf' : Follows (d :: r) (r'.drop 1) n' := by
        obtain ⟨f1, f2, f3, f4⟩ := hf
        refine ⟨?_, by simp only [List.length_cons] at f2 ⊢; omega, by rw [List.length_drop]; omega, ?_⟩
        · have := congrArg (List.drop 1) f1
          rw [List.drop_take, List.drop_take] at this
          simpa using this
        · rw [List.drop_drop, show 1 + n' = n' + 1 by omega]
          simpa using f4
      have h3 := textL_follows h1 hf'
      have hr' : r' = c :: r'.drop 1 := by
        rw [List.take_succ_cons] at hs
        have := congrArg (List.drop 1) hs
        simp only [List.cons_append, List.drop_succ_cons, List.drop_zero] at this
        rw [this]
        exact hs
      cases hq : r'.drop 1 with
      | nil =>
        rw [hq] at h3; cases h3
      | cons e q =>
        rw [hr', hq]
        rw [hq] at h3
        simp [textL, hc, h3]
termination_by r => r.length

theorem sign_follows {r r' g : List UInt8} (h : signOf r = some g) (hf : Follows r r' g.length) : signOf r' = some g := by
  obtain ⟨hm, hp⟩ := signOf_mem h
  have hp := List.isPrefixOf_iff_prefix.1 hp
  have hg : r.take g.length = g := (List.prefix_iff_eq_take.1 hp).symm
  have hp' : g <+: r' := by
    rw [List.prefix_iff_eq_take, hf.1, hg]
  have hb := signL_len g hm
  have key : ∀ x ∈ signL, x.isPrefixOf r = false → x.isPrefixOf r' = false := by
    intro x hx hxr
    cases hxr' : x.isPrefixOf r' with
    | false => rfl
    | true =>
      exfalso
      have h1 := List.isPrefixOf_iff_prefix.1 hxr'
      have hbx := signL_len x hx
      have : x <+: r := by
        rcases Nat.lt_or_ge g.length x.length with hlt | hge
        · -- x is longer: g one byte, x two
          have hg1 : g.length = 1 := by omega
          have hx2 : x.length = 2 := by omega
          obtain ⟨a, b, rfl⟩ : ∃ a b, x = [a, b] := by
            match x, hx2 with
            | [a, b], _ => exact ⟨a, b, rfl⟩
          obtain ⟨q, rfl⟩ := h1
          rw [hg1] at hf
          obtain ⟨f1, f2, f3, f4⟩ := hf
          have hb' : b = 61 ∨ b = 62 := by
            have hall : ∀ x ∈ signL, ∀ b, x[1]? = some b → b = 61 ∨ b = 62 := by
              intro x hx b hb
              simp only [signL, List.mem_cons, List.not_mem_nil, or_false] at hx
              rcases hx with rfl | rfl | rfl | rfl | rfl | rfl | rfl | rfl | rfl | rfl | rfl | rfl | rfl | rfl | rfl <;> simp at hb <;> simp [← hb]
            exact hall _ hx b rfl
          rcases f4 with f4 | ⟨c, hc, hs⟩
          · match r, f1, f4 with
            | [], f1, f4 => simp at f1
            | y :: r0, f1, f4 =>
              simp at f1 f4
              subst f1
              match r0, f4 with
              | [], f4 => simp at f4
              | z :: r1, f4 =>
                simp at f4
                subst f4
                exact ⟨r1, rfl⟩
          · simp at hc
            subst hc
            rcases hs with rfl | rfl <;> rcases hb' with h | h <;> cases h
        · have h2 : x <+: r'.take g.length := by
            rw [List.prefix_take_iff]
            exact ⟨h1, hge⟩
          rw [hf.1] at h2
          exact h2.trans (List.take_prefix _ _)
      rw [List.isPrefixOf_iff_prefix.2 this] at hxr
      cases hxr
  unfold signOf at h ⊢
  have gen : ∀ L : List (List UInt8), (∀ x ∈ L, x ∈ signL) → L.find? (fun g => g.isPrefixOf r) = some g → L.find? (fun g => g.isPrefixOf r') = some g := by
    intro L
    induction L with
    | nil => intro _ h; cases h
    | cons x L ih =>
      intro hL h
      rw [List.find?_cons] at h ⊢
      cases hx : x.isPrefixOf r with
      | true =>
        rw [hx] at h
        cases h
        rw [List.isPrefixOf_iff_prefix.2 hp']
      | false =>
        rw [hx] at h
        rw [key x (hL x (by simp)) hx]
        exact ih (fun y hy => hL y (by simp [hy])) h
  exact gen signL (fun x hx => hx) h

theorem head_follows {r r' : List UInt8} {m : Nat} (hf : Follows r r' m) (hm : 1 ≤ m) {c : UInt8} {q : List UInt8} (hr : r = c :: q) : ∃ q', r' = c :: q' := by
  subst hr
  obtain ⟨_, h2⟩ := follows_split hf
  obtain ⟨k, rfl⟩ : ∃ k, m = k + 1 := ⟨m - 1, by omega⟩
  rw [List.take_succ_cons, List.cons_append] at h2
  exact ⟨_, h2⟩

theorem next_follows {r r' : List UInt8} {t : Tk} (h : nextR r = some t) (hf : Follows r r' t.m) : nextR r' = some t := by
  have hm := nextR_le h
  unfold nextR at h
  split at h
  · cases h
  · rename_i c q
    obtain ⟨q', rfl⟩ := head_follows hf hm.1 rfl
    unfold nextR
    simp only
    split at h
    · rename_i h1
      rw [if_pos h1]
      split at h
      · rename_i tt n hx
        split at h
        · rename_i h2
          cases h
          have hf' : Follows q q' n := by
            obtain ⟨f1, f2, f3, f4⟩ := hf
            refine ⟨?_, by simp only [List.length_cons] at f2; omega, by simp only [List.length_cons] at f3; omega, ?_⟩
            · simpa using f1
            · simpa using f4
          rw [textL_follows hx hf']
          simp only
          rw [if_pos h2]
        · cases h
      · cases h
    · rename_i h1
      rw [if_neg h1]
      split at h
      · rename_i h2
        rw [if_pos h2]
        split at h
        · rename_i h3
          cases h
          have hr := run_follows hf
          rw [hr, hf.1, if_pos h3]
        · cases h
      · rename_i h2
        rw [if_neg h2]
        split at h
        · rename_i h3
          rw [if_pos h3]
          split at h
          · rename_i h4
            cases h
            have hr := run_follows hf
            rw [hr, hf.1, if_pos h4]
          · cases h
        · rename_i h3
          rw [if_neg h3]
          rw [Option.map_eq_some_iff] at h ⊢
          obtain ⟨g, hg, rfl⟩ := h
          exact ⟨g, sign_follows hg hf, rfl⟩
end Go.Proofs.YtffhgjoemimmnaaDoor

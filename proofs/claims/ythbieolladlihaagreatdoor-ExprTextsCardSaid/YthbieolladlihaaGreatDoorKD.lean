/- Texts of expressions: one text, one expression, but for the places of columns. -/
import Derived.Test.YthbieolladlihaaGreatDoorKA
set_option linter.unusedVariables false
set_option linter.unusedSimpArgs false
namespace Go.Proofs.YthbieolladlihaaGreatDoor
open Go Go.Aev Go.RowKit Go.Sort

/-! ### without places -/
def plainH (h : Hd) : Hd := if h.k = 2 then { h with n := 0 } else h
def plainF : Fo → Fo
  | .nil => .nil
  | .cons h ks r => .cons (plainH h) (plainF ks) (plainF r)
theorem plain_len : ∀ F, (plainF F).len = F.len
  | .nil => rfl
  | .cons h ks r => by simp only [plainF, Fo.len, plain_len r]
theorem plain_size : ∀ F, (plainF F).size = F.size
  | .nil => rfl
  | .cons h ks r => by simp only [plainF, Fo.size, plain_size r, plain_size ks]
theorem plain_deep : ∀ F, (plainF F).deep = F.deep
  | .nil => rfl
  | .cons h ks r => by simp only [plainF, Fo.deep, plain_deep r, plain_deep ks]
theorem textH_plain (h : Hd) (a b : List UInt8) : textH (plainH h) a b = textH h a b := by
  unfold plainH
  split
  · rename_i hk
    unfold textH
    simp only [hk]
    rfl
  · rfl
theorem texts_plain : ∀ F : Fo, (plainF F).texts = F.texts
  | .nil => rfl
  | .cons h ks r => by simp only [plainF, Fo.texts, texts_plain ks, texts_plain r, textH_plain]
theorem textE_plain (h : Hd) (ks : Fo) : textE (plainH h) (plainF ks) = textE h ks := by unfold textE; rw [texts_plain, textH_plain]

/-! ### words -/
def nw (x : List UInt8) : Prop := ∀ c, x.head? = some c → isW c = false
def dl (x : List UInt8) : Prop := ∀ c, x.head? = some c → c = 32 ∨ c = 41
theorem w32 : isW 32 = false := by kernel_rfl
theorem w39 : isW 39 = false := by kernel_rfl
theorem w40 : isW 40 = false := by kernel_rfl
theorem w41 : isW 41 = false := by kernel_rfl
theorem w42 : isW 42 = false := by kernel_rfl
theorem w45 : isW 45 = false := by kernel_rfl
theorem w46 : isW 46 = false := by kernel_rfl
theorem dl_nw {x : List UInt8} (h : dl x) : nw x := fun c hc => by
  rcases h c hc with rfl | rfl
  · exact w32
  · exact w41
theorem dl_nil : dl [] := fun c hc => by cases hc
theorem dl_cons {c : UInt8} {x : List UInt8} (h : c = 32 ∨ c = 41) : dl (c :: x) := fun d hd => by cases hd; exact h
theorem nw_cons {c : UInt8} {x : List UInt8} (h : isW c = false) : nw (c :: x) := fun d hd => by cases hd; exact h
theorem run_uniq : ∀ {w w' x x' : List UInt8}, w.all isW = true → w'.all isW = true → nw x → nw x' → w ++ x = w' ++ x' → w = w' ∧ x = x'
  | [], [], x, x', _, _, _, _, h => ⟨rfl, h⟩
  | [], c :: w', x, x', _, h2, hx, _, h => by
    simp only [List.nil_append, List.cons_append] at h
    subst h
    rw [List.all_cons, Bool.and_eq_true] at h2
    have := hx c rfl
    rw [h2.1] at this
    cases this
  | c :: w, [], x, x', h1, _, _, hx, h => by
    simp only [List.nil_append, List.cons_append] at h
    subst h
    rw [List.all_cons, Bool.and_eq_true] at h1
    have := hx c rfl
    rw [h1.1] at this
    cases this
  | c :: w, d :: w', x, x', h1, h2, hx, hx', h => by
    simp only [List.cons_append, List.cons.injEq] at h
    rw [List.all_cons, Bool.and_eq_true] at h1 h2
    obtain ⟨rfl, h⟩ := h
    obtain ⟨rfl, rfl⟩ := run_uniq h1.2 h2.2 hx hx' h
    exact ⟨rfl, rfl⟩
/-- up to a blank -/
theorem blank_uniq : ∀ {w w' x x' : List UInt8}, (32 : UInt8) ∉ w → (32 : UInt8) ∉ w' → w ++ 32 :: x = w' ++ 32 :: x' → w = w' ∧ x = x'
  | [], [], x, x', _, _, h => by simpa using h
  | [], c :: w', x, x', _, h2, h => by
    simp only [List.nil_append, List.cons_append, List.cons.injEq] at h
    exact absurd (by rw [h.1]; simp) h2
  | c :: w, [], x, x', h1, _, h => by
    simp only [List.nil_append, List.cons_append, List.cons.injEq] at h
    exact absurd (by rw [h.1]; simp) h1
  | c :: w, d :: w', x, x', h1, h2, h => by
    simp only [List.cons_append, List.cons.injEq] at h
    obtain ⟨rfl, h⟩ := h
    obtain ⟨rfl, rfl⟩ := blank_uniq (fun hm => h1 (List.mem_cons_of_mem _ hm)) (fun hm => h2 (List.mem_cons_of_mem _ hm)) h
    exact ⟨rfl, rfl⟩
/-- up to a quote -/
theorem quote_uniq : ∀ {s s' r r' : List UInt8}, dl r → dl r' → dbl s ++ 39 :: r = dbl s' ++ 39 :: r' → s = s' ∧ r = r'
  | [], [], r, r', _, _, h => by simpa [dbl] using h
  | [], c :: s', r, r', hr, _, h => by
    simp only [dbl, List.nil_append] at h
    split at h
    · simp only [List.cons_append, List.cons.injEq] at h
      obtain ⟨_, rfl⟩ := h
      rcases hr _ rfl with h | h <;> exact absurd h (by decide)
    · rename_i hc
      simp only [List.cons_append, List.cons.injEq] at h
      exact absurd h.1.symm hc
  | c :: s, [], r, r', _, hr, h => by
    simp only [dbl, List.nil_append] at h
    split at h
    · simp only [List.cons_append, List.cons.injEq] at h
      obtain ⟨_, rfl⟩ := h
      rcases hr _ rfl with h | h <;> exact absurd h (by decide)
    · rename_i hc
      simp only [List.cons_append, List.cons.injEq] at h
      exact absurd h.1 hc
  | c :: s, d :: s', r, r', hr, hr', h => by
    simp only [dbl] at h
    split at h
    · rename_i hc
      split at h
      · rename_i hd
        simp only [List.cons_append, List.cons.injEq] at h
        obtain ⟨rfl, rfl⟩ := quote_uniq hr hr' h.2.2
        exact ⟨by rw [hc, hd], rfl⟩
      · rename_i hd
        simp only [List.cons_append, List.cons.injEq] at h
        exact absurd h.1.symm hd
    · rename_i hc
      split at h
      · rename_i hd
        simp only [List.cons_append, List.cons.injEq] at h
        exact absurd h.1 hc
      · simp only [List.cons_append, List.cons.injEq] at h
        obtain ⟨rfl, rfl⟩ := quote_uniq hr hr' h.2
        exact ⟨by rw [h.1], rfl⟩

/-! ### numbers -/
def numOf (l : List UInt8) : Nat := l.foldl (fun a c => 10 * a + (c.toNat - 48)) 0
theorem dig_val : ∀ d : Fin 10, (UInt8.ofNat (48 + d.1)).toNat - 48 = d.1 := by decide
theorem dig_digit (d : Fin 10) : digit (UInt8.ofNat (48 + d.1)) = true := by
  have h0 : ((List.range 10).all fun n => digit (UInt8.ofNat (48 + n))) = true := by kernel_rfl
  exact List.all_eq_true.1 h0 d.1 (List.mem_range.2 d.2)
theorem dec_facts (u : Nat) : numOf (Lib.decDigits u) = u ∧ (∀ c ∈ Lib.decDigits u, digit c = true) ∧ Lib.decDigits u ≠ [] := by
  induction u using Nat.strongRecOn with
  | ind u ih =>
    by_cases h : u < 10
    · rw [Lib.decDigits_one h]
      refine ⟨?_, fun c hc => ?_, by simp⟩
      · have := dig_val ⟨u, h⟩
        show 10 * 0 + _ = u
        simp only at this
        omega
      · rw [List.mem_singleton] at hc
        subst hc
        exact dig_digit ⟨u, h⟩
    · obtain ⟨h1, h2, h3⟩ := ih (u / 10) (by omega)
      rw [dec_big h]
      have hlt : u % 10 < 10 := Nat.mod_lt _ (by decide)
      refine ⟨?_, fun c hc => ?_, by simp⟩
      · unfold numOf at h1 ⊢
        rw [List.foldl_append, h1]
        have := dig_val ⟨u % 10, hlt⟩
        simp only at this
        simp only [List.foldl_cons, List.foldl_nil, this]
        omega
      · rcases List.mem_append.1 hc with hc | hc
        · exact h2 c hc
        · rw [List.mem_singleton] at hc
          subst hc
          exact dig_digit ⟨u % 10, hlt⟩
theorem dec_inj {u v : Nat} (h : Lib.decDigits u = Lib.decDigits v) : u = v := by rw [← (dec_facts u).1, h, (dec_facts v).1]
theorem letter_digit (c : UInt8) (h : letter c = true) : digit c = false := by
  have h0 : ((List.range 256).all fun n => !(letterI (n : Int)) || !(digitI (n : Int))) = true := by kernel_rfl
  have h1 := List.all_eq_true.1 h0 c.toNat (List.mem_range.2 c.toNat_lt)
  have h2 : letterI ((c.toNat : Nat) : Int) = true := h
  rw [h2] at h1
  have h3 : (!(digitI ((c.toNat : Nat) : Int))) = true := h1
  have h4 : digitI ((c.toNat : Nat) : Int) = false := by simpa using h3
  exact h4
theorem digit_w {c : UInt8} (h : digit c = true) : isW c = true := by unfold isW; rw [h, Bool.or_true]

/-! ### what a text is like -/
def NULLt : List UInt8 := [78, 85, 76, 76]
def TRUEt : List UInt8 := [84, 82, 85, 69]
def FALSEt : List UInt8 := [70, 65, 76, 83, 69]
def zeroH (k n : Int) : Hd := ⟨k, n, 0, 0, [], [], []⟩
def One (w : List UInt8) (p : Hd) : Prop := (w = NULLt ∧ p = zeroH 1 0) ∨ (w = TRUEt ∧ p = ⟨1, 0, 1, 1, [], [], []⟩) ∨ (w = FALSEt ∧ p = ⟨1, 0, 1, 0, [], [], []⟩) ∨
  (∃ u : Nat, w = Lib.decDigits u ∧ p = ⟨1, 0, 2, u, [], [], []⟩) ∨ (nameOk w = true ∧ p = ⟨2, 0, 0, 0, [], [], w⟩)
def keyT : List UInt8 → Option Hd := fun w => if w = NULLt then some (zeroH 1 0) else if w = TRUEt then some ⟨1, 0, 1, 1, [], [], []⟩ else if w = FALSEt then some ⟨1, 0, 1, 0, [], [], []⟩ else none
def oneF (w : List UInt8) : Hd := match keyT w with
  | some p => p
  | none => if (w.head?.any digit) = true then ⟨1, 0, 2, (numOf w : Nat), [], [], []⟩ else ⟨2, 0, 0, 0, [], [], w⟩
theorem name_facts {w : List UInt8} (h : nameOk w = true) : w.all isW = true ∧ w ∉ keyWords ∧ ∃ c t, w = c :: t ∧ letter c = true := by
  unfold nameOk at h
  cases w with
  | nil => cases h
  | cons c t =>
    simp only [Bool.and_eq_true, Bool.not_eq_true', decide_eq_false_iff_not] at h
    exact ⟨h.2.1, h.2.2.2, c, t, rfl, h.1⟩
theorem key_none {w : List UInt8} (h : w ∉ keyWords) : keyT w = none := by
  unfold keyT
  rw [if_neg (fun e => h (by rw [e]; decide)), if_neg (fun e => h (by rw [e]; decide)), if_neg (fun e => h (by rw [e]; decide))]
theorem dec_head (u : Nat) : ∃ c t, Lib.decDigits u = c :: t ∧ digit c = true := by
  obtain ⟨_, h2, h3⟩ := dec_facts u
  cases hd : Lib.decDigits u with
  | nil => exact absurd hd h3
  | cons c t => exact ⟨c, t, rfl, h2 c (by rw [hd]; simp)⟩
theorem key_dec (u : Nat) : keyT (Lib.decDigits u) = none := by
  obtain ⟨c, t, h, hc⟩ := dec_head u
  have n78 : digit 78 = false := by kernel_rfl
  have n84 : digit 84 = false := by kernel_rfl
  have n70 : digit 70 = false := by kernel_rfl
  rw [h]
  unfold keyT
  rw [if_neg, if_neg, if_neg]
  · intro e; injection e with e _; subst e; rw [n70] at hc; cases hc
  · intro e; injection e with e _; subst e; rw [n84] at hc; cases hc
  · intro e; injection e with e _; subst e; rw [n78] at hc; cases hc
theorem one_eq {w : List UInt8} {p : Hd} (h : One w p) : p = oneF w := by
  rcases h with ⟨rfl, rfl⟩ | ⟨rfl, rfl⟩ | ⟨rfl, rfl⟩ | ⟨u, rfl, rfl⟩ | ⟨hn, rfl⟩
  · rfl
  · rfl
  · rfl
  · unfold oneF
    rw [key_dec]
    obtain ⟨c, t, h, hc⟩ := dec_head u
    have : ((Lib.decDigits u).head?.any digit) = true := by rw [h]; exact hc
    simp only [this, if_true, (dec_facts u).1]
  · unfold oneF
    obtain ⟨h1, h2, c, t, h3, h4⟩ := name_facts hn
    rw [key_none h2]
    have : (w.head?.any digit) = false := by rw [h3]; exact letter_digit c h4
    simp only [this]
    rfl
theorem one_w {w : List UInt8} {p : Hd} (h : One w p) : w.all isW = true ∧ (∃ c t, w = c :: t ∧ isW c = true) ∧ w ≠ [78, 79, 84] := by
  rcases h with ⟨rfl, rfl⟩ | ⟨rfl, rfl⟩ | ⟨rfl, rfl⟩ | ⟨u, rfl, rfl⟩ | ⟨hn, rfl⟩
  · exact ⟨by kernel_rfl, ⟨_, _, rfl, by kernel_rfl⟩, by decide⟩
  · exact ⟨by kernel_rfl, ⟨_, _, rfl, by kernel_rfl⟩, by decide⟩
  · exact ⟨by kernel_rfl, ⟨_, _, rfl, by kernel_rfl⟩, by decide⟩
  · obtain ⟨c, t, h, hc⟩ := dec_head u
    refine ⟨List.all_eq_true.2 fun c hc => digit_w ((dec_facts u).2.1 c hc), ⟨c, t, h, digit_w hc⟩, fun e => ?_⟩
    rw [h] at e
    injection e with e _
    subst e
    have n78 : digit 78 = false := by kernel_rfl
    rw [n78] at hc
    cases hc
  · obtain ⟨h1, h2, c, t, h3, h4⟩ := name_facts hn
    refine ⟨h1, ⟨c, t, h3, by unfold isW; rw [h4, Bool.true_or]⟩, fun e => h2 (by rw [e]; decide)⟩

inductive Cl where
  | word | dot | agg | str | op
inductive Cl2 where
  | no | neg | post
inductive Tail : Int → Fo → List UInt8 → Prop where
  | null : Tail 16 .nil [73, 83, 32, 78, 85, 76, 76, 41]
  | there : Tail 17 .nil [73, 83, 32, 78, 79, 84, 32, 78, 85, 76, 76, 41]
  | bin (n : Int) (h1 : Hd) (k1 : Fo) (a : 1 ≤ n) (b : n < 15) (c : n ≠ 3) : Tail n (.cons h1 k1 .nil) (signsL.getD n.toNat [] ++ 32 :: (textE h1 k1 ++ [41]))
inductive Body : Int → Fo → List UInt8 → Cl2 → Prop where
  | no (h0 : Hd) (k0 : Fo) : Body 3 (.cons h0 k0 .nil) ([78, 79, 84] ++ 32 :: (textE h0 k0 ++ [41])) .no
  | neg (h0 : Hd) (k0 : Fo) : Body 15 (.cons h0 k0 .nil) (45 :: 32 :: (textE h0 k0 ++ [41])) .neg
  | post (n : Int) (h0 : Hd) (k0 rest : Fo) (z : List UInt8) (t : Tail n rest z) : Body n (.cons h0 k0 rest) (textE h0 k0 ++ 32 :: z) .post
inductive Form : Hd → Fo → Cl → Prop where
  | word (h : Hd) (w : List UInt8) (o : One w (plainH h)) (t : textE h .nil = w) : Form h .nil .word
  | dot (h : Hd) (tab col : List UInt8) (nt : nameOk tab = true) (nc : nameOk col = true) (p : plainH h = ⟨2, 0, 0, 0, [], tab, col⟩) (t : textE h .nil = tab ++ 46 :: col) : Form h .nil .dot
  | rows (h : Hd) (p : plainH h = zeroH 4 1) (t : textE h .nil = [67, 79, 85, 78, 84] ++ [40, 42, 41]) : Form h .nil .agg
  | agg (h : Hd) (n : Int) (h0 : Hd) (k0 : Fo) (a : 2 ≤ n) (b : n ≤ 5) (p : plainH h = zeroH 4 n) (t : textE h (.cons h0 k0 .nil) = wordsL.getD n.toNat [] ++ 40 :: (textE h0 k0 ++ [41])) : Form h (.cons h0 k0 .nil) .agg
  | str (h : Hd) (s : List UInt8) (p : plainH h = ⟨1, 0, 3, 0, s, [], []⟩) (t : textE h .nil = 39 :: (dbl s ++ [39])) : Form h .nil .str
  | op (h : Hd) (ks : Fo) (n : Int) (body : List UInt8) (c : Cl2) (b : Body n ks body c) (p : plainH h = zeroH 3 n) (t : textE h ks = 40 :: body) : Form h ks .op

theorem words_w : ∀ n : Fin 6, 2 ≤ n.1 → (wordsL.getD n.1 []).all isW = true ∧ ∃ c t, wordsL.getD n.1 [] = c :: t ∧ isW c = true := by
  intro n hn
  match n with
  | 2 => exact ⟨by kernel_rfl, _, _, rfl, by kernel_rfl⟩
  | 3 => exact ⟨by kernel_rfl, _, _, rfl, by kernel_rfl⟩
  | 4 => exact ⟨by kernel_rfl, _, _, rfl, by kernel_rfl⟩
  | 5 => exact ⟨by kernel_rfl, _, _, rfl, by kernel_rfl⟩
theorem words_wI {n : Int} (a : 2 ≤ n) (b : n ≤ 5) : (wordsL.getD n.toNat []).all isW = true ∧ ∃ c t, wordsL.getD n.toNat [] = c :: t ∧ isW c = true :=
  words_w ⟨n.toNat, by omega⟩ (by simp only; omega)
theorem words_inj {n m : Int} (a : 2 ≤ n) (b : n ≤ 5) (a' : 2 ≤ m) (b' : m ≤ 5) (h : wordsL.getD n.toNat [] = wordsL.getD m.toNat []) : n = m := by
  have h1 : n = 2 ∨ n = 3 ∨ n = 4 ∨ n = 5 := by omega
  have h2 : m = 2 ∨ m = 3 ∨ m = 4 ∨ m = 5 := by omega
  rcases h1 with rfl | rfl | rfl | rfl <;> rcases h2 with rfl | rfl | rfl | rfl <;> first | rfl | exact absurd h (by decide)
theorem signs_fin : ∀ n : Fin 15, (32 : UInt8) ∉ signsL.getD n.1 [] ∧ signsL.getD n.1 [] ≠ [73, 83] := by decide
theorem signs_finj : ∀ n m : Fin 15, n.1 ≠ 0 → n.1 ≠ 3 → m.1 ≠ 0 → m.1 ≠ 3 → signsL.getD n.1 [] = signsL.getD m.1 [] → n.1 = m.1 := by decide

theorem form_of {h : Hd} {ks : Fo} (hm : may h ks.len = true) : ∃ c, Form h ks c := by
  have hm0 := hm
  obtain ⟨k, n, vk, vn, vs, tab, col⟩ := h
  unfold may nov at hm
  simp only [empty_dec] at hm
  have kn : ∀ {F : Fo}, F.len = 0 → F = .nil := fun {F} hF => by cases F with
    | nil => rfl
    | cons _ _ _ => simp only [Fo.len] at hF; omega
  by_cases h1 : k = 1
  · subst h1
    rw [if_pos rfl] at hm
    simp only [Bool.and_eq_true, decide_eq_true_eq, Bool.or_eq_true, Bool.not_eq_true', decide_eq_false_iff_not] at hm
    obtain ⟨hok, hpos, rfl, rfl, rfl, hlen⟩ := hm
    obtain rfl := kn hlen
    have hp : ∀ a b s, plainH ⟨1, 0, a, b, s, [], []⟩ = ⟨1, 0, a, b, s, [], []⟩ := fun a b s => if_neg (show ¬ (1 : Int) = 2 by decide)
    have ht : textE ⟨1, 0, vk, vn, vs, [], []⟩ .nil = showV vk vn vs := by unfold textE textH; rw [if_pos rfl]
    have hn0 : vk = 0 → vn = 0 := fun h0 => by
      subst h0
      have e : ∀ s : List UInt8, decide (mk s = bs []) = decide (s = []) := empty_dec
      simp only [V.ok, e, Bool.or_eq_true, Bool.and_eq_true, decide_eq_true_eq] at hok
      omega
    unfold showV at ht
    rw [if_pos hok] at ht
    rcases showV_cases hok with ⟨rfl, rfl⟩ | ⟨rfl, h1, rfl⟩ | ⟨rfl, h1, h2, rfl⟩ | ⟨rfl, rfl, hl⟩
    · obtain rfl := hn0 rfl
      rw [if_pos rfl] at ht
      exact ⟨.word, .word _ NULLt (.inl ⟨rfl, hp _ _ _⟩) ht⟩
    · rcases h1 with rfl | rfl
      · exact ⟨.word, .word _ FALSEt (.inr (.inr (.inl ⟨rfl, hp _ _ _⟩))) ht⟩
      · exact ⟨.word, .word _ TRUEt (.inr (.inl ⟨rfl, hp _ _ _⟩)) ht⟩
    · obtain ⟨u, rfl⟩ : ∃ u : Nat, vn = u := ⟨vn.toNat, by rcases hpos with h | h; exact absurd rfl h; omega⟩
      refine ⟨.word, .word _ (Lib.decDigits u) (.inr (.inr (.inr (.inl ⟨u, rfl, hp _ _ _⟩)))) ?_⟩
      rw [ht]
      show Lib.itoa (u : Int) = _
      unfold Lib.itoa
      rw [if_neg (by omega)]
      rfl
    · exact ⟨.str, .str _ vs (hp _ _ _) ht⟩
  rw [if_neg (by simpa using h1)] at hm
  by_cases h2 : k = 2
  · subst h2
    rw [if_pos rfl] at hm
    simp only [Bool.and_eq_true, decide_eq_true_eq, Bool.or_eq_true] at hm
    obtain ⟨hcol, htab, _, _, ⟨rfl, rfl, rfl, _⟩, hlen⟩ := hm
    obtain rfl := kn hlen
    have hp : plainH ⟨2, n, 0, 0, [], tab, col⟩ = ⟨2, 0, 0, 0, [], tab, col⟩ := if_pos rfl
    have ht : textE ⟨2, n, 0, 0, [], tab, col⟩ .nil = if tab = [] then col else tab ++ [46] ++ col := rfl
    by_cases hte : tab = []
    · subst hte
      exact ⟨.word, .word _ col (.inr (.inr (.inr (.inr ⟨hcol, hp⟩)))) ht⟩
    · rw [if_neg hte, List.append_assoc] at ht
      rcases htab with h | h
      · exact absurd h hte
      · exact ⟨.dot, .dot _ tab col h hcol hp ht⟩
  rw [if_neg (by simpa using h2)] at hm
  by_cases h3 : k = 3
  · subst h3
    rw [if_pos rfl] at hm
    simp only [Bool.and_eq_true, decide_eq_true_eq] at hm
    obtain ⟨⟨rfl, rfl, rfl, _⟩, rfl, rfl, _, _⟩ := hm
    have hp : plainH ⟨3, n, 0, 0, [], [], []⟩ = zeroH 3 n := if_neg (show ¬ (3 : Int) = 2 by decide)
    have ht : ∀ F, textE ⟨3, n, 0, 0, [], [], []⟩ F = opText n (F.texts.getD 0 []) (F.texts.getD 1 []) := fun F => rfl
    rcases may_op (h := ⟨3, n, 0, 0, [], [], []⟩) rfl hm0 with ⟨hlen, hn⟩ | ⟨hlen, hn1, hn2, hn3⟩
    · obtain ⟨h0, k0, rfl⟩ := len_one hlen
      have ht := ht (.cons h0 k0 .nil)
      have e0 : (Fo.cons h0 k0 .nil).texts.getD 0 [] = textE h0 k0 := rfl
      rw [e0] at ht
      simp only at hn
      refine ⟨.op, ?_⟩
      rcases hn with rfl | rfl | rfl | rfl
      · exact .op _ _ 3 _ _ (.no h0 k0) hp (ht.trans (by simp [opText]))
      · exact .op _ _ 15 _ _ (.neg h0 k0) hp (ht.trans (by simp [opText]))
      · exact .op _ _ 16 _ _ (.post 16 h0 k0 .nil _ .null) hp (ht.trans (by simp [opText]))
      · exact .op _ _ 17 _ _ (.post 17 h0 k0 .nil _ .there) hp (ht.trans (by simp [opText]))
    · obtain ⟨h0, k0, h1', k1, rfl⟩ := len_two hlen
      simp only at hn1 hn2 hn3
      have ht := ht (.cons h0 k0 (.cons h1' k1 .nil))
      have e0 : (Fo.cons h0 k0 (.cons h1' k1 .nil)).texts.getD 0 [] = textE h0 k0 := rfl
      have e1 : (Fo.cons h0 k0 (.cons h1' k1 .nil)).texts.getD 1 [] = textE h1' k1 := rfl
      rw [e0, e1] at ht
      refine ⟨.op, .op _ _ n _ _ (.post n h0 k0 _ _ (.bin n h1' k1 hn1 hn2 hn3)) hp (ht.trans ?_)⟩
      unfold opText
      rw [if_neg hn3, if_neg (by omega), if_neg (by omega), if_neg (by omega)]
      simp
  rw [if_neg (by simpa using h3)] at hm
  by_cases h4 : k = 4
  · subst h4
    rw [if_pos rfl] at hm
    simp only [Bool.and_eq_true, decide_eq_true_eq] at hm
    obtain ⟨⟨rfl, rfl, rfl, _⟩, rfl, rfl, _, _, _⟩ := hm
    have hp : plainH ⟨4, n, 0, 0, [], [], []⟩ = zeroH 4 n := if_neg (show ¬ (4 : Int) = 2 by decide)
    have ht : ∀ F, textE ⟨4, n, 0, 0, [], [], []⟩ F = if n = 1 then [67, 79, 85, 78, 84, 40, 42, 41] else wordsL.getD n.toNat [] ++ [40] ++ F.texts.getD 0 [] ++ [41] := fun F => rfl
    rcases may_agg (h := ⟨4, n, 0, 0, [], [], []⟩) rfl hm0 with ⟨hlen, hn⟩ | ⟨hlen, hn1, hn2⟩
    · simp only at hn
      subst hn
      obtain rfl := kn hlen
      exact ⟨.agg, .rows _ hp (ht .nil)⟩
    · simp only at hn1 hn2
      obtain ⟨h0, k0, rfl⟩ := len_one hlen
      have ht := ht (.cons h0 k0 .nil)
      rw [if_neg (by omega)] at ht
      refine ⟨.agg, .agg _ n h0 k0 hn1 hn2 hp (ht.trans ?_)⟩
      show wordsL.getD n.toNat [] ++ [40] ++ textE h0 k0 ++ [41] = _
      simp
  · rw [if_neg (by simpa using h4)] at hm
    cases hm

/-! ### which of these a text is -/
def cl (t : List UInt8) : Cl := match t with
  | [] => .word
  | c :: _ => cond (isW c) (match (t.dropWhile isW).head? with
    | some d => if d = 46 then .dot else if d = 40 then .agg else .word
    | none => .word) (if c = 39 then .str else .op)
theorem cl_run {w x : List UInt8} (h : w.all isW = true) (hc : ∃ c t, w = c :: t ∧ isW c = true) (hx : nw x) : cl (w ++ x) = (match x.head? with
    | some d => if d = 46 then .dot else if d = 40 then .agg else .word
    | none => .word) := by
  have hd : (w ++ x).dropWhile isW = x := by
    rw [List.dropWhile_append_of_pos (fun c hc => List.all_eq_true.1 h c hc)]
    cases x with
    | nil => rfl
    | cons d y =>
      have := hx d rfl
      rw [List.dropWhile_cons, this]
      rfl
  obtain ⟨c, t, rfl, hw⟩ := hc
  unfold cl
  rw [List.cons_append] at hd ⊢
  simp only [hw, cond_true, hd]
theorem cl_dl {r : List UInt8} (hr : dl r) : (match r.head? with
    | some d => if d = 46 then Cl.dot else if d = 40 then Cl.agg else Cl.word
    | none => .word) = .word := by
  cases r with
  | nil => rfl
  | cons c t => rcases hr c rfl with rfl | rfl <;> rfl
theorem form_cl {h : Hd} {ks : Fo} {c : Cl} (hf : Form h ks c) {r : List UInt8} (hr : dl r) : cl (textE h ks ++ r) = c := by
  cases hf with
  | word w o t =>
    rw [t]
    obtain ⟨h1, h2, _⟩ := one_w o
    rw [cl_run h1 h2 (dl_nw hr), cl_dl hr]
  | dot tab col nt nc p t =>
    rw [t, List.append_assoc, List.cons_append]
    obtain ⟨h1, _, d, u, h3, h4⟩ := name_facts nt
    rw [cl_run h1 ⟨d, u, h3, by unfold isW; rw [h4, Bool.true_or]⟩ (nw_cons w46)]
    rfl
  | rows p t =>
    rw [t, List.append_assoc]
    show cl ([67, 79, 85, 78, 84] ++ (40 :: ([42, 41] ++ r))) = _
    rw [cl_run (w := [67, 79, 85, 78, 84]) (by kernel_rfl) ⟨_, _, rfl, by kernel_rfl⟩ (nw_cons w40)]
    rfl
  | agg n h0 k0 a b p t =>
    obtain ⟨h1, h2⟩ := words_wI a b
    rw [t, List.append_assoc, List.cons_append, cl_run h1 h2 (nw_cons w40)]
    rfl
  | str s p t =>
    rw [t]
    unfold cl
    rw [List.cons_append]
    simp only [w39]
    rfl
  | op _ n body c b p t =>
    rw [t]
    unfold cl
    rw [List.cons_append]
    simp only [w40]
    rfl
theorem form_head {h : Hd} {ks : Fo} {c : Cl} (hf : Form h ks c) : ∃ d t, textE h ks = d :: t ∧ (isW d = true ∨ d = 39 ∨ d = 40) := by
  cases hf with
  | word w o t =>
    obtain ⟨_, ⟨d, u, h2, h3⟩, _⟩ := one_w o
    exact ⟨d, u, by rw [t, h2], .inl h3⟩
  | dot tab col nt nc p t =>
    obtain ⟨h1, _, d, u, h3, h4⟩ := name_facts nt
    exact ⟨d, _, by rw [t, h3]; rfl, .inl (by unfold isW; rw [h4, Bool.true_or])⟩
  | rows p t => exact ⟨67, _, t, .inl (by kernel_rfl)⟩
  | agg n h0 k0 a b p t =>
    obtain ⟨h1, d, u, h3, h4⟩ := words_wI a b
    exact ⟨d, _, by rw [t, h3]; rfl, .inl h4⟩
  | str s p t => exact ⟨39, _, t, .inr (.inl rfl)⟩
  | op _ n body c b p t => exact ⟨40, _, t, .inr (.inr rfl)⟩
theorem form_not {h : Hd} {ks : Fo} {c : Cl} (hf : Form h ks c) {z y : List UInt8} : textE h ks ++ 32 :: z ≠ [78, 79, 84] ++ 32 :: y := by
  intro he
  have h1 := form_cl hf (dl_cons (x := z) (.inl rfl))
  rw [he, cl_run (w := [78, 79, 84]) (by kernel_rfl) ⟨_, _, rfl, by kernel_rfl⟩ (nw_cons w32)] at h1
  have h2 : c = .word := h1.symm
  subst h2
  cases hf with
  | word w o t =>
    obtain ⟨k1, k2, k3⟩ := one_w o
    rw [t] at he
    exact k3 (run_uniq k1 (by kernel_rfl) (nw_cons w32) (nw_cons w32) he).1

/-! ### one text, one expression -/
def Inj (h : Hd) (ks : Fo) : Prop := ∀ (h' : Hd) (ks' : Fo) (r r' : List UInt8), may h' ks'.len = true → wfL ks' = true → dl r → dl r' → textE h ks ++ r = textE h' ks' ++ r' → plainH h = plainH h' ∧ plainF ks = plainF ks' ∧ r = r'
def InjL : Fo → Prop
  | .nil => True
  | .cons h ks r => Inj h ks ∧ InjL r

theorem tail_inj {n n' : Int} {ks ks' : Fo} {z z' r r' : List UInt8} (ht : Tail n ks z) (ht' : Tail n' ks' z') (ih : InjL ks) (hw' : wfL ks' = true) (hr : dl r) (hr' : dl r') (he : z ++ r = z' ++ r') : n = n' ∧ plainF ks = plainF ks' ∧ r = r' := by
  have is32 : (32 : UInt8) ∉ ([73, 83] : List UInt8) := by decide
  cases ht with
  | null => cases ht' with
    | null => exact ⟨rfl, rfl, List.append_cancel_left he⟩
    | there => simp at he
    | bin n' h1 k1 a b c =>
      obtain ⟨s1, s2⟩ := signs_fin ⟨n'.toNat, by omega⟩
      rw [List.append_assoc] at he
      exact absurd (blank_uniq (w := [73, 83]) is32 s1 he).1.symm s2
  | there => cases ht' with
    | null => simp at he
    | there => exact ⟨rfl, rfl, List.append_cancel_left he⟩
    | bin n' h1 k1 a b c =>
      obtain ⟨s1, s2⟩ := signs_fin ⟨n'.toNat, by omega⟩
      rw [List.append_assoc] at he
      exact absurd (blank_uniq (w := [73, 83]) is32 s1 he).1.symm s2
  | bin n h1 k1 a b c =>
    obtain ⟨s1, s2⟩ := signs_fin ⟨n.toNat, by omega⟩
    rw [List.append_assoc] at he
    cases ht' with
    | null => exact absurd (blank_uniq (w' := [73, 83]) s1 is32 he).1 s2
    | there => exact absurd (blank_uniq (w' := [73, 83]) s1 is32 he).1 s2
    | bin n' h1' k1' a' b' c' =>
      obtain ⟨s1', _⟩ := signs_fin ⟨n'.toNat, by omega⟩
      simp only [List.append_assoc, List.cons_append, List.nil_append] at he
      obtain ⟨e1, e2⟩ := blank_uniq s1 s1' he
      have e3 := signs_finj ⟨n.toNat, by omega⟩ ⟨n'.toNat, by omega⟩ (by simp only; omega) (by simp only; omega) (by simp only; omega) (by simp only; omega) e1
      simp only at e3
      simp only [wfL, Bool.and_eq_true] at hw'
      obtain ⟨p1, p2, p3⟩ := ih.1 h1' k1' _ _ hw'.1 hw'.2.1 (dl_cons (.inr rfl)) (dl_cons (.inr rfl)) e2
      injection p3 with _ p3
      refine ⟨by omega, ?_, p3⟩
      simp only [plainF, p1, p2]

theorem inj_E {h : Hd} {ks : Fo} (ih : InjL ks) (hm : may h ks.len = true) (hw : wfL ks = true) : Inj h ks := by
  intro h' ks' r r' hm' hw' hr hr' he
  obtain ⟨c, hf⟩ := form_of hm
  obtain ⟨c', hf'⟩ := form_of hm'
  obtain rfl : c = c' := by rw [← form_cl hf hr, ← form_cl hf' hr', he]
  cases hf with
  | word w o t => cases hf' with
    | word w' o' t' =>
      rw [t, t'] at he
      obtain ⟨rfl, rfl⟩ := run_uniq (one_w o).1 (one_w o').1 (dl_nw hr) (dl_nw hr') he
      exact ⟨(one_eq o).trans (one_eq o').symm, rfl, rfl⟩
  | dot tab col nt nc p t => cases hf' with
    | dot tab' col' nt' nc' p' t' =>
      rw [t, t', List.append_assoc, List.append_assoc] at he
      obtain ⟨rfl, e⟩ := run_uniq (name_facts nt).1 (name_facts nt').1 (nw_cons w46) (nw_cons w46) he
      injection e with _ e
      obtain ⟨rfl, rfl⟩ := run_uniq (name_facts nc).1 (name_facts nc').1 (dl_nw hr) (dl_nw hr') e
      exact ⟨p.trans p'.symm, rfl, rfl⟩
  | rows p t => cases hf' with
    | rows p' t' =>
      rw [t, t'] at he
      exact ⟨p.trans p'.symm, rfl, List.append_cancel_left he⟩
    | agg n' h0' k0' a' b' p' t' =>
      rw [t, t', List.append_assoc, List.append_assoc] at he
      obtain ⟨_, e⟩ := run_uniq (by kernel_rfl) (words_wI a' b').1 (nw_cons w40) (nw_cons w40) he
      simp only [wfL, Bool.and_eq_true] at hw'
      obtain ⟨c0, f0⟩ := form_of hw'.1
      obtain ⟨d, u, e0, hd⟩ := form_head f0
      rw [e0] at e
      injection e with _ e
      injection e with e _
      subst e
      rcases hd with hd | hd | hd
      · rw [w42] at hd; cases hd
      · exact absurd hd (by decide)
      · exact absurd hd (by decide)
  | agg n h0 k0 a b p t => cases hf' with
    | rows p' t' =>
      rw [t, t', List.append_assoc, List.append_assoc] at he
      obtain ⟨_, e⟩ := run_uniq (words_wI a b).1 (by kernel_rfl) (nw_cons w40) (nw_cons w40) he
      simp only [wfL, Bool.and_eq_true] at hw
      obtain ⟨c0, f0⟩ := form_of hw.1
      obtain ⟨d, u, e0, hd⟩ := form_head f0
      rw [e0] at e
      injection e with _ e
      injection e with e _
      subst e
      rcases hd with hd | hd | hd
      · rw [w42] at hd; cases hd
      · exact absurd hd (by decide)
      · exact absurd hd (by decide)
    | agg n' h0' k0' a' b' p' t' =>
      rw [t, t', List.append_assoc, List.append_assoc] at he
      obtain ⟨e1, e⟩ := run_uniq (words_wI a b).1 (words_wI a' b').1 (nw_cons w40) (nw_cons w40) he
      obtain rfl := words_inj a b a' b' e1
      injection e with _ e
      have e : (textE h0 k0 ++ [41]) ++ r = (textE h0' k0' ++ [41]) ++ r' := e
      simp only [List.append_assoc, List.cons_append, List.nil_append, List.cons.injEq, true_and] at e
      simp only [wfL, Bool.and_eq_true] at hw'
      obtain ⟨p1, p2, p3⟩ := ih.1 h0' k0' _ _ hw'.1 hw'.2.1 (dl_cons (.inr rfl)) (dl_cons (.inr rfl)) e
      injection p3 with _ p3
      exact ⟨p.trans p'.symm, by simp only [plainF, p1, p2], p3⟩
  | str s p t => cases hf' with
    | str s' p' t' =>
      rw [t, t'] at he
      simp only [List.cons_append, List.cons.injEq, true_and, List.append_assoc] at he
      obtain ⟨rfl, rfl⟩ := quote_uniq hr hr' he
      exact ⟨p.trans p'.symm, rfl, rfl⟩
  | op _ n body c b p t => cases hf' with
    | op _ n' body' c' b' p' t' =>
      rw [t, t'] at he
      injection he with _ he
      have he : body ++ r = body' ++ r' := he
      have fin : n = n' ∧ plainF ks = plainF ks' ∧ r = r' → plainH h = plainH h' ∧ plainF ks = plainF ks' ∧ r = r' := fun ⟨q1, q2, q3⟩ => ⟨by rw [p, p', q1], q2, q3⟩
      apply fin
      cases b with
      | no h0 k0 =>
        rw [List.append_assoc] at he
        cases b' with
        | no h0' k0' =>
          rw [List.append_assoc] at he
          have e := List.append_cancel_left he
          simp only [List.append_assoc, List.cons_append, List.nil_append, List.cons.injEq, true_and] at e
          simp only [wfL, Bool.and_eq_true] at hw'
          obtain ⟨p1, p2, p3⟩ := ih.1 h0' k0' _ _ hw'.1 hw'.2.1 (dl_cons (.inr rfl)) (dl_cons (.inr rfl)) e
          injection p3 with _ p3
          exact ⟨rfl, by simp only [plainF, p1, p2], p3⟩
        | neg h0' k0' =>
          injection he with e _
          exact absurd e (by decide)
        | post n' h0' k0' rest' z' t' =>
          simp only [wfL, Bool.and_eq_true] at hw'
          obtain ⟨c0, f0⟩ := form_of hw'.1
          rw [List.append_assoc] at he
          exact absurd he.symm (form_not f0)
      | neg h0 k0 => cases b' with
        | no h0' k0' =>
          injection he with e _
          exact absurd e (by decide)
        | neg h0' k0' =>
          injection he with _ e
          injection e with _ e
          have e : (textE h0 k0 ++ [41]) ++ r = (textE h0' k0' ++ [41]) ++ r' := e
          simp only [List.append_assoc, List.cons_append, List.nil_append] at e
          simp only [wfL, Bool.and_eq_true] at hw'
          obtain ⟨p1, p2, p3⟩ := ih.1 h0' k0' _ _ hw'.1 hw'.2.1 (dl_cons (.inr rfl)) (dl_cons (.inr rfl)) e
          injection p3 with _ p3
          exact ⟨rfl, by simp only [plainF, p1, p2], p3⟩
        | post n' h0' k0' rest' z' t' =>
          simp only [wfL, Bool.and_eq_true] at hw'
          obtain ⟨c0, f0⟩ := form_of hw'.1
          obtain ⟨d, u, e0, hd⟩ := form_head f0
          rw [e0] at he
          injection he with e _
          subst e
          rcases hd with hd | hd | hd
          · rw [w45] at hd; cases hd
          · exact absurd hd (by decide)
          · exact absurd hd (by decide)
      | post n h0 k0 rest z tl =>
        rw [List.append_assoc] at he
        have hw0 := hw
        simp only [wfL, Bool.and_eq_true] at hw
        obtain ⟨c0, f0⟩ := form_of hw.1
        cases b' with
        | no h0' k0' =>
          rw [List.append_assoc] at he
          exact absurd he (form_not f0)
        | neg h0' k0' =>
          obtain ⟨d, u, e0, hd⟩ := form_head f0
          rw [e0] at he
          injection he with e _
          subst e
          rcases hd with hd | hd | hd
          · rw [w45] at hd; cases hd
          · exact absurd hd (by decide)
          · exact absurd hd (by decide)
        | post n' h0' k0' rest' z' tl' =>
          rw [List.append_assoc] at he
          simp only [wfL, Bool.and_eq_true] at hw'
          obtain ⟨p1, p2, p3⟩ := ih.1 h0' k0' _ _ hw'.1 hw'.2.1 (dl_cons (.inl rfl)) (dl_cons (.inl rfl)) he
          injection p3 with _ p3
          obtain ⟨q1, q2, q3⟩ := tail_inj tl tl' ih.2 hw'.2.2 hr hr' p3
          exact ⟨q1, by simp only [plainF, p1, p2, q2], q3⟩
theorem inj_L : ∀ F : Fo, wfL F = true → InjL F
  | .nil, _ => trivial
  | .cons h ks r, hw => by
    simp only [wfL, Bool.and_eq_true] at hw
    exact ⟨inj_E (inj_L ks hw.2.1) hw.1 hw.2.1, inj_L r hw.2.2⟩

theorem text_inj {h h' : Hd} {ks ks' : Fo} (hok : okE h ks = true) (hok' : okE h' ks' = true) : textE h ks = textE h' ks' ↔ plainH h = plainH h' ∧ plainF ks = plainF ks' := by
  refine ⟨fun he => ?_, fun ⟨h1, h2⟩ => by rw [← textE_plain h, ← textE_plain h', h1, h2]⟩
  unfold okE at hok hok'
  rw [Bool.and_eq_true] at hok hok'
  have hw := wf_good _ _ _ hok.1
  have hw' := wf_good _ _ _ hok'.1
  simp only [wfL, Bool.and_eq_true] at hw hw'
  obtain ⟨h1, h2, _⟩ := inj_E (inj_L ks hw.2.1) hw.1 hw.2.1 h' ks' [] [] hw'.1 hw'.2.1 dl_nil dl_nil (by rw [he])
  exact ⟨h1, h2⟩

end Go.Proofs.YthbieolladlihaaGreatDoor

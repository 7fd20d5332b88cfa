/- The scanner, in plain Lean: tokens, and the whole. -/
import Derived.Test.YtffhgjoemimmnaaDoorK4
import Derived.Test.YtffhgjoemimmnaaDoorKT
set_option linter.unusedVariables false
set_option linter.unusedSimpArgs false
namespace Go.Proofs.YtffhgjoemimmnaaDoor
open Go Go.Aev Go.RowKit

/-! ### signs -/
def signL : List (List UInt8) := [[60, 61], [62, 61], [60, 62], [40], [41], [44], [46], [42], [43], [45], [47], [37], [61], [60], [62]]
def signOf (l : List UInt8) : Option (List UInt8) := signL.find? fun g => g.isPrefixOf l

abbrev signLoop (n : Nat) (v_ : Bool) (i : Int) (b0 : Int) (b1 : ByteArray) (b2 b3 : Int) (s : ByteArray) (p : Int) (γ : Type) (K : Ex → Bool → Int → Int → ByteArray → Int → Int → ByteArray → Int → Option γ) : Option γ :=
  Sp.lex_scanner_sign_L0 n (bs [60, 61]) (bs [62, 61]) (bs [60, 62]) (bs [40]) (bs [41]) (bs [44]) (bs [46]) (bs [42]) (bs [43]) (bs [45]) (bs [47]) (bs [37]) (bs [61]) (bs [60]) (bs [62]) v_ i b0 b1 b2 b3 s p γ K

theorem sign_step (n : Nat) (l : List UInt8) (j : Nat) (hj : j ≤ l.length) (hl : l.length ≤ 16777216) (v_ : Bool) (b0 : Int) (b1 : ByteArray) (b2 b3 : Int) (γ : Type) (K : Ex → Bool → Int → Int → ByteArray → Int → Int → ByteArray → Int → Option γ) (i : Nat) (g : List UInt8) (hg : signL[i]? = some g) :
    signLoop (n + 1) v_ (i : Int) b0 b1 b2 b3 (mk l) (j : Int) γ K = cond (g.isPrefixOf (l.drop j)) (K .ret true i 5 (mk g) 0 j (mk l) ((j + g.length : Nat) : Int)) (signLoop n v_ ((i + 1 : Nat) : Int) b0 b1 b2 b3 (mk l) (j : Int) γ K) := by
  have hlt : i < 15 := (List.getElem?_eq_some_iff.1 hg).1
  have hlen : g.length ≤ 2 := by
    have : g ∈ signL := List.mem_of_getElem? hg
    have hall : ∀ x ∈ signL, x.length ≤ 2 := by decide
    exact hall g this
  have key : ∀ (x : ByteArray), x = mk g → (bif decide ((0 : Int) ≤ (j : Int)) && decide ((j : Int) ≤ Int.ofNat (ByteArray.size (mk l))) && decide (Int.ofNat (ByteArray.size (mk l)) ≤ Int.ofNat (ByteArray.size (mk l))) && true then Sp.strings_HasPrefix (ByteArray.extract (mk l) (Int.toNat (j : Int)) (Int.toNat (Int.ofNat (ByteArray.size (mk l))))) x γ fun (z30 : Bool) => bif z30 then K Ex.ret true (i : Int) 5 x 0 (j : Int) (mk l) (IntKind.wrap IntKind.i64 ((j : Int) + Int.ofNat (ByteArray.size x))) else signLoop n v_ (IntKind.wrap IntKind.i64 ((i : Int) + 1)) b0 b1 b2 b3 (mk l) (j : Int) γ K else none)
      = cond (g.isPrefixOf (l.drop j)) (K .ret true i 5 (mk g) 0 j (mk l) ((j + g.length : Nat) : Int)) (signLoop n v_ ((i + 1 : Nat) : Int) b0 b1 b2 b3 (mk l) (j : Int) γ K) := by
    intro x hx
    subst hx
    simp only [size_mk, Int.ofNat_eq_natCast, Int.le_refl, decide_true, Bool.and_true, extract_mk, Int.toNat_natCast, List.take_length]
    rw [decide_eq_true (show (0 : Int) ≤ (j : Int) by omega), decide_eq_true (show (j : Int) ≤ (l.length : Int) by omega)]
    simp only [Bool.and_true, cond_true]
    unfold Sp.strings_HasPrefix
    simp only [data_mk]
    rw [show IntKind.wrap .i64 ((i : Int) + 1) = ((i + 1 : Nat) : Int) by rw [wrap_i64 (by omega)]; omega, show IntKind.wrap .i64 ((j : Int) + (g.length : Int)) = ((j + g.length : Nat) : Int) by rw [wrap_i64 (by omega)]; omega]
    rfl
  match i, hlt, hg with
  | 0, _, hg => cases hg; exact Eq.trans (by kernel_rfl) (key (mk signL[0]) rfl)
  | 1, _, hg => cases hg; exact Eq.trans (by kernel_rfl) (key (mk signL[1]) rfl)
  | 2, _, hg => cases hg; exact Eq.trans (by kernel_rfl) (key (mk signL[2]) rfl)
  | 3, _, hg => cases hg; exact Eq.trans (by kernel_rfl) (key (mk signL[3]) rfl)
  | 4, _, hg => cases hg; exact Eq.trans (by kernel_rfl) (key (mk signL[4]) rfl)
  | 5, _, hg => cases hg; exact Eq.trans (by kernel_rfl) (key (mk signL[5]) rfl)
  | 6, _, hg => cases hg; exact Eq.trans (by kernel_rfl) (key (mk signL[6]) rfl)
  | 7, _, hg => cases hg; exact Eq.trans (by kernel_rfl) (key (mk signL[7]) rfl)
  | 8, _, hg => cases hg; exact Eq.trans (by kernel_rfl) (key (mk signL[8]) rfl)
  | 9, _, hg => cases hg; exact Eq.trans (by kernel_rfl) (key (mk signL[9]) rfl)
  | 10, _, hg => cases hg; exact Eq.trans (by kernel_rfl) (key (mk signL[10]) rfl)
  | 11, _, hg => cases hg; exact Eq.trans (by kernel_rfl) (key (mk signL[11]) rfl)
  | 12, _, hg => cases hg; exact Eq.trans (by kernel_rfl) (key (mk signL[12]) rfl)
  | 13, _, hg => cases hg; exact Eq.trans (by kernel_rfl) (key (mk signL[13]) rfl)
  | 14, _, hg => cases hg; exact Eq.trans (by kernel_rfl) (key (mk signL[14]) rfl)

theorem sign_loop (l : List UInt8) (j : Nat) (hj : j ≤ l.length) (hl : l.length ≤ 16777216) (γ : Type) (K : Int → ByteArray → Int → Int → Bool → ByteArray → Int → Option γ) : ∀ (d i n : Nat), 15 = i + d → d < n →
    (signLoop n false (i : Int) 0 (bs []) 0 0 (mk l) (j : Int) γ fun (z4 : Ex) (z5 : Bool) (z6 z7 : Int) (z8 : ByteArray) (z9 z10 : Int) (z11 : ByteArray) (z12 : Int) => bif Ex.isExit z4 0 then K 0 (bs []) 0 0 false z11 z12 else bif Ex.isRet z4 then K z7 z8 z9 z10 z5 z11 z12 else none) =
      match (signL.drop i).find? fun g => g.isPrefixOf (l.drop j) with
      | some g => K 5 (mk g) 0 j true (mk l) ((j + g.length : Nat) : Int)
      | none => K 0 (bs []) 0 0 false (mk l) j := by
  intro d
  induction d with
  | zero =>
    intro i n hi hn
    obtain ⟨n, rfl⟩ : ∃ m, n = m + 1 := ⟨n - 1, by omega⟩
    have : i = 15 := by omega
    subst this
    unfold signLoop Sp.lex_scanner_sign_L0 Sp.B_lex_scanner_sign_L0
    rfl
  | succ d ih =>
    intro i n hi hn
    obtain ⟨n, rfl⟩ : ∃ m, n = m + 1 := ⟨n - 1, by omega⟩
    have hlt : i < signL.length := by show i < 15; omega
    rw [sign_step n l j hj hl false 0 (bs []) 0 0 γ _ i signL[i] (List.getElem?_eq_getElem hlt)]
    rw [List.drop_eq_getElem_cons hlt, List.find?_cons]
    cases hp : signL[i].isPrefixOf (l.drop j) with
    | true => simp [Ex.isExit, Ex.isRet]
    | false =>
      rw [cond_false]
      exact ih (i + 1) n (by omega) (by omega)

theorem sign_eq (l : List UInt8) (j : Nat) (hj : j ≤ l.length) (hl : l.length ≤ 16777216) (γ : Type) (K : Int → ByteArray → Int → Int → Bool → ByteArray → Int → Option γ) :
    Sp.lex_scanner_sign (mk l) (j : Int) γ K = match signOf (l.drop j) with
      | some g => K 5 (mk g) 0 j true (mk l) ((j + g.length : Nat) : Int)
      | none => K 0 (bs []) 0 0 false (mk l) j := by
  unfold Sp.lex_scanner_sign Sp.B_lex_scanner_sign
  exact sign_loop l j hj hl γ K 15 0 fuel rfl (by decide)

/-! ### one token -/
/-- kind, text, number, how much is taken -/
structure Tk where
  k : Int
  s : List UInt8
  n : Int
  m : Nat

def nextR (r : List UInt8) : Option Tk :=
  match r with
  | [] => none
  | c :: r' =>
    if ci c = 39 then (match textL r' with
      | some (t, n) => if t.length ≤ 64 then some ⟨4, t, 0, n + 1⟩ else none
      | none => none)
    else if digit c = true then (if (numG 0 (r.take (runN r))).2 = true then some ⟨3, r.take (runN r), (numG 0 (r.take (runN r))).1, runN r⟩ else none)
    else if letter c = true then (if (r.take (runN r)).length ≤ 24 then some ⟨cond (decide (r.take (runN r) ∈ keyWords)) 2 1, r.take (runN r), 0, runN r⟩ else none)
    else (signOf r).map fun g => ⟨5, g, 0, g.length⟩

theorem next_eq (l : List UInt8) (i : Nat) (hi : i < l.length) (hl : l.length ≤ 16777216) :
    (∃ t, nextR (l.drop i) = some t ∧ ∀ (γ : Type) (K : Int → ByteArray → Int → Int → Bool → ByteArray → Int → Option γ), Sp.lex_scanner_next (mk l) (i : Int) γ K = K t.k (mk t.s) t.n i true (mk l) ((i + t.m : Nat) : Int)) ∨
    (nextR (l.drop i) = none ∧ ∃ a b c d p, ∀ (γ : Type) (K : Int → ByteArray → Int → Int → Bool → ByteArray → Int → Option γ), Sp.lex_scanner_next (mk l) (i : Int) γ K = K a b c d false (mk l) p) := by
  obtain ⟨c, hc, hd⟩ := drop_cons hi
  have hn : ∀ (γ : Type) (K : Int → ByteArray → Int → Int → Bool → ByteArray → Int → Option γ), Sp.lex_scanner_next (mk l) (i : Int) γ K =
      cond (decide (ci c = 39)) (Sp.lex_scanner_text (mk l) (i : Int) γ K) (cond (digit c) (Sp.lex_scanner_number (mk l) (i : Int) γ K) (cond (letter c) (Sp.lex_scanner_word (mk l) (i : Int) γ K) (Sp.lex_scanner_sign (mk l) (i : Int) γ K))) := by
    intro γ K
    unfold Sp.lex_scanner_next Sp.B_lex_scanner_next
    rw [byteAt_some hc]
    show (bif decide (ci c = 39) then _ else _) = _
    cases decide (ci c = 39) with
    | true => rfl
    | false =>
      rw [cond_false, cond_false, digit_eq]
      show (bif digit c then _ else _) = _
      cases digit c with
      | true => rfl
      | false =>
        rw [cond_false, cond_false, letter_eq]
        show (bif letter c then _ else _) = _
        cases letter c <;> rfl
  have hr : nextR (l.drop i) = if ci c = 39 then (match textL (l.drop (i + 1)) with
      | some (t, n) => if t.length ≤ 64 then some ⟨4, t, 0, n + 1⟩ else none
      | none => none)
    else if digit c = true then (if (numG 0 ((l.drop i).take (runN (l.drop i)))).2 = true then some ⟨3, (l.drop i).take (runN (l.drop i)), (numG 0 ((l.drop i).take (runN (l.drop i)))).1, runN (l.drop i)⟩ else none)
    else if letter c = true then (if ((l.drop i).take (runN (l.drop i))).length ≤ 24 then some ⟨cond (decide ((l.drop i).take (runN (l.drop i)) ∈ keyWords)) 2 1, (l.drop i).take (runN (l.drop i)), 0, runN (l.drop i)⟩ else none)
    else (signOf (l.drop i)).map fun g => ⟨5, g, 0, g.length⟩ := by
    rw [hd]; rfl
  rw [hr]
  by_cases h1 : ci c = 39
  · rw [if_pos h1]
    have ht : ∀ (γ : Type) (K : Int → ByteArray → Int → Int → Bool → ByteArray → Int → Option γ), Sp.lex_scanner_next (mk l) (i : Int) γ K = K 4 (textR (mk l) i).1 0 i (textR (mk l) i).2.1 (mk l) (textR (mk l) i).2.2 := by
      intro γ K
      rw [hn, decide_eq_true h1, cond_true]
      exact text_eq l i hi hl γ K
    have htr : textR (mk l) i = match textL (l.drop (i + 1)) with
        | some (t, n) => (mk t, decide (t.length ≤ 64), ((i + 1 + n : Nat) : Int))
        | none => (mk [], false, ((mk l).size : Int)) := by
      unfold textR
      rw [data_mk]
      cases textL (l.drop (i + 1)) <;> rfl
    cases hx : textL (l.drop (i + 1)) with
    | none =>
      refine .inr ⟨rfl, 4, mk [], 0, i, ((mk l).size : Int), fun γ K => ?_⟩
      rw [ht, htr, hx]
    | some p =>
      obtain ⟨t, n⟩ := p
      simp only
      by_cases h2 : t.length ≤ 64
      · rw [if_pos h2]
        refine .inl ⟨_, rfl, fun γ K => ?_⟩
        rw [ht, htr, hx]
        simp only
        rw [decide_eq_true h2, show i + 1 + n = i + (n + 1) by omega]
      · rw [if_neg h2]
        refine .inr ⟨rfl, 4, mk t, 0, i, ((i + 1 + n : Nat) : Int), fun γ K => ?_⟩
        rw [ht, htr, hx]
        simp only
        rw [decide_eq_false h2]
  · rw [if_neg h1]
    by_cases h2 : digit c = true
    · rw [if_pos h2]
      have ht : ∀ (γ : Type) (K : Int → ByteArray → Int → Int → Bool → ByteArray → Int → Option γ), Sp.lex_scanner_next (mk l) (i : Int) γ K = Sp.lex_scanner_number (mk l) (i : Int) γ K := by
        intro γ K
        rw [hn, decide_eq_false h1, h2]; rfl
      by_cases h3 : (numG 0 ((l.drop i).take (runN (l.drop i)))).2 = true
      · rw [if_pos h3]
        refine .inl ⟨_, rfl, fun γ K => ?_⟩
        rw [ht, number_eq l i (by omega) hl, h3]
      · rw [if_neg h3]
        refine .inr ⟨rfl, 3, mk ((l.drop i).take (runN (l.drop i))), (numG 0 ((l.drop i).take (runN (l.drop i)))).1, i, ((i + runN (l.drop i) : Nat) : Int), fun γ K => ?_⟩
        rw [ht, number_eq l i (by omega) hl, Bool.eq_false_iff.2 h3]
    · rw [if_neg h2]
      by_cases h4 : letter c = true
      · rw [if_pos h4]
        have ht : ∀ (γ : Type) (K : Int → ByteArray → Int → Int → Bool → ByteArray → Int → Option γ), Sp.lex_scanner_next (mk l) (i : Int) γ K = Sp.lex_scanner_word (mk l) (i : Int) γ K := by
          intro γ K
          rw [hn, decide_eq_false h1, Bool.eq_false_iff.2 h2, h4]; rfl
        by_cases h3 : ((l.drop i).take (runN (l.drop i))).length ≤ 24
        · rw [if_pos h3]
          refine .inl ⟨_, rfl, fun γ K => ?_⟩
          rw [ht, word_eq l i (by omega) hl, decide_eq_true h3]
        · rw [if_neg h3]
          refine .inr ⟨rfl, cond (decide (((l.drop i).take (runN (l.drop i))) ∈ keyWords)) 2 1, mk ((l.drop i).take (runN (l.drop i))), 0, i, ((i + runN (l.drop i) : Nat) : Int), fun γ K => ?_⟩
          rw [ht, word_eq l i (by omega) hl, decide_eq_false h3]
      · rw [if_neg h4]
        have ht : ∀ (γ : Type) (K : Int → ByteArray → Int → Int → Bool → ByteArray → Int → Option γ), Sp.lex_scanner_next (mk l) (i : Int) γ K = Sp.lex_scanner_sign (mk l) (i : Int) γ K := by
          intro γ K
          rw [hn, decide_eq_false h1, Bool.eq_false_iff.2 h2, Bool.eq_false_iff.2 h4]; rfl
        cases hx : signOf (l.drop i) with
        | none =>
          refine .inr ⟨rfl, 0, bs [], 0, 0, i, fun γ K => ?_⟩
          rw [ht, sign_eq l i (by omega) hl, hx]
        | some g =>
          refine .inl ⟨_, rfl, fun γ K => ?_⟩
          rw [ht, sign_eq l i (by omega) hl, hx]
end Go.Proofs.YtffhgjoemimmnaaDoor

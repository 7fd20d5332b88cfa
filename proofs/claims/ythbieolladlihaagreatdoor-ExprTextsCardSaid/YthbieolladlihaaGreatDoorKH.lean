/- ExprTexts: its plain law. -/
import Derived.Test.YthbieolladlihaaGreatDoorKC
import Derived.Test.YthbieolladlihaaGreatDoorKD
set_option linter.unusedVariables false
set_option linter.unusedSimpArgs false
namespace Go.Proofs.YthbieolladlihaaGreatDoor
open Go Go.Aev Go.RowKit Go.Sort

theorem eqH_iff (h h' : Hd) : eqH h h' = true ↔ h = h' := by
  obtain ⟨k, n, vk, vn, vs, tab, col⟩ := h
  obtain ⟨k', n', vk', vn', vs', tab', col'⟩ := h'
  unfold eqH
  simp only [mk_inj, Bool.and_eq_true, decide_eq_true_eq, Bool.and_true, Hd.mk.injEq, and_assoc]
theorem sameL_iff : ∀ F F' : Fo, sameL F F' = true ↔ F = F'
  | .nil, .nil => ⟨fun _ => rfl, fun _ => rfl⟩
  | .nil, .cons _ _ _ => ⟨fun h => (by cases h), fun h => (by cases h)⟩
  | .cons _ _ _, .nil => ⟨fun h => (by cases h), fun h => (by cases h)⟩
  | .cons h ks r, .cons h' ks' r' => by
    simp only [sameL, Bool.and_eq_true, eqH_iff, sameL_iff ks ks', sameL_iff r r', decide_eq_true_eq, Fo.cons.injEq]
    constructor
    · intro ⟨⟨h1, _, h2⟩, h3⟩
      exact ⟨h1, h2, h3⟩
    · intro ⟨h1, h2, h3⟩
      exact ⟨⟨h1, by rw [h2], h2⟩, h3⟩
theorem sameE_iff (h h' : Hd) (ks ks' : Fo) : sameE h ks h' ks' = true ↔ h = h' ∧ ks = ks' := by
  simp only [sameE, Bool.and_eq_true, eqH_iff, sameL_iff ks ks', decide_eq_true_eq]
  constructor
  · intro ⟨h1, _, h2⟩
    exact ⟨h1, h2⟩
  · intro ⟨h1, h2⟩
    exact ⟨h1, by rw [h2], h2⟩

theorem sized_enc : ∀ F : Fo, sized F.enc 8 = true
  | .nil => rfl
  | .cons h ks r => by
    have := sized_enc r
    unfold sized at this ⊢
    simp only [Fo.enc, List.all_cons, this]
    rfl
def PlainAt (f : Nat) (h : Hd) (ks : Fo) : Prop := ∀ (γ : Type) (K : Int → Int → Int → Int → ByteArray → ByteArray → ByteArray → List (List Dat) → Option γ),
  Sp.law10_plain f h.k h.n h.vk h.vn (mk h.vs) (mk h.tab) (mk h.col) ks.enc γ K = K (plainH h).k (plainH h).n (plainH h).vk (plainH h).vn (mk (plainH h).vs) (mk (plainH h).tab) (mk (plainH h).col) (plainF ks).enc
def PlainL (F : Fo) : Prop := ∀ (T : Fo) (i f q : Nat) (l : List (List Dat)) (b0 b1 b2 b3 : Int) (b4 b5 b6 : ByteArray) (c0 c1 c2 c3 : Int) (c4 c5 c6 : ByteArray) (c7 : List (List Dat)) (γ : Type)
  (K : Ex → List (List Dat) → Int → Int → Int → Int → Int → ByteArray → ByteArray → ByteArray → List (List Dat) → Int → Int → Int → Int → ByteArray → ByteArray → ByteArray → List (List Dat) → Option γ),
  T.enc.drop i = F.enc → sized l 8 = true → i + F.len ≤ 100000 → F.len < q → F.deep < f → F.deep ≤ 100000 → F.size ≤ 100000 → l.length + F.len ≤ 100000 →
  Sp.law10_plain_L0 (Sp.law10_plain f) q l (i : Int) b0 b1 b2 b3 b4 b5 b6 T.enc c0 c1 c2 c3 c4 c5 c6 c7 γ K = K (.exit 0) (l ++ (plainF F).enc) ((i + F.len : Nat) : Int) b0 b1 b2 b3 b4 b5 b6 T.enc c0 c1 c2 c3 c4 c5 c6 c7
theorem plain_E {ks : Fo} (ih : PlainL ks) (h : Hd) (f : Nat) (hf : ks.deep + 1 < f) (hd : ks.deep ≤ 100000) (hs : ks.size ≤ 100000) : PlainAt f h ks := by
  intro γ K
  obtain ⟨f, rfl⟩ : ∃ g, f = g + 1 := ⟨f - 1, by omega⟩
  rw [Sp.law10_plain]
  unfold Sp.B_law10_plain plainH
  have hlen := Fo.len_size ks
  by_cases hk : h.k = 2
  · rw [decide_eq_true hk, cond_true, if_pos hk]
    refine (ih ks 0 f fuel [] h.k 0 h.vk h.vn (mk h.vs) (mk h.tab) (mk h.col) _ _ _ _ _ _ _ _ γ _ rfl rfl (by omega) (by unfold fuel; omega) (by omega) hd hs (by simp only [List.length_nil]; omega)).trans ?_
    rw [List.nil_append, sized_enc]
    rfl
  · rw [decide_eq_false hk, cond_false, if_neg hk]
    refine (ih ks 0 f fuel [] h.k h.n h.vk h.vn (mk h.vs) (mk h.tab) (mk h.col) _ _ _ _ _ _ _ _ γ _ rfl rfl (by omega) (by unfold fuel; omega) (by omega) hd hs (by simp only [List.length_nil]; omega)).trans ?_
    rw [List.nil_append, sized_enc]
    rfl
theorem plain_L : ∀ F : Fo, PlainL F
  | .nil => by
    intro T i f q l b0 b1 b2 b3 b4 b5 b6 c0 c1 c2 c3 c4 c5 c6 c7 γ K hd ho hi hq hf hdp hs hl
    obtain ⟨q, rfl⟩ : ∃ g, q = g + 1 := ⟨q - 1, by omega⟩
    rw [Sp.law10_plain_L0]
    unfold Sp.B_law10_plain_L0
    have hl := drop_nil hd
    rw [ho, cond_true, decide_eq_false (show ¬ (i : Int) < Int.ofNat T.enc.length by simp only [Int.ofNat_eq_natCast]; omega), cond_false]
    simp only [plainF, Fo.enc, List.append_nil, Fo.len, Nat.add_zero]
  | .cons h ks r => by
    intro T i f q l b0 b1 b2 b3 b4 b5 b6 c0 c1 c2 c3 c4 c5 c6 c7 γ K hd ho hi hq hf hdp hs hl
    simp only [Fo.len, Fo.deep, Fo.size] at hi hq hf hdp hs hl
    obtain ⟨q, rfl⟩ : ∃ g, q = g + 1 := ⟨q - 1, by omega⟩
    rw [Sp.law10_plain_L0]
    unfold Sp.B_law10_plain_L0
    obtain ⟨hlt, _, hn⟩ := drop_enc hd
    rw [ho, cond_true, decide_eq_true (show (i : Int) < Int.ofNat T.enc.length by simp only [Int.ofNat_eq_natCast]; omega), cond_true, elem_enc hd, plain_E (plain_L ks) h f (by omega) (by omega) (by omega), nextI (by omega)]
    rw [decide_eq_true (show (l.length + 1) * 105 ≤ 70368744177664 by omega)]
    simp only [Bool.and_self, cond_true]
    refine (plain_L r T (i + 1) f q (l ++ [encE (plainH h) (plainF ks)]) b0 b1 b2 b3 b4 b5 b6 c0 c1 c2 c3 c4 c5 c6 c7 γ K hn (sized_append ho rfl) (by omega) (by omega) (by omega) (by omega) (by omega) (by rw [List.length_append, List.length_singleton]; omega)).trans ?_
    rw [List.append_assoc, show i + 1 + r.len = i + (Fo.cons h ks r).len by simp only [Fo.len]; omega]
    rfl
theorem Plain_eq {h : Hd} {ks : Fo} (hs : Small h ks) (γ : Type) (K : Int → Int → Int → Int → ByteArray → ByteArray → ByteArray → List (List Dat) → Option γ) :
    Sp.law10_plain fuel h.k h.n h.vk h.vn (mk h.vs) (mk h.tab) (mk h.col) ks.enc γ K = K (plainH h).k (plainH h).n (plainH h).vk (plainH h).vn (mk (plainH h).vs) (mk (plainH h).tab) (mk (plainH h).col) (plainF ks).enc := by
  have h1 := hs.size
  have h2 := hs.deep
  exact plain_E (plain_L ks) h fuel (by unfold fuel; omega) (by omega) (by omega) γ K

theorem texts (h : Hd) (ks : Fo) (h' : Hd) (ks' : Fo) (γ : Type) (K : Bool → Option γ) : Sp.law10_ExprTexts h.k h.n h.vk h.vn (mk h.vs) (mk h.tab) (mk h.col) ks.enc h'.k h'.n h'.vk h'.vn (mk h'.vs) (mk h'.tab) (mk h'.col) ks'.enc γ K = K true := by
  unfold Sp.law10_ExprTexts Sp.B_law10_ExprTexts
  rw [Large_eq, lives_eq]
  cases hl : large h ks with
  | true => rfl
  | false =>
  have hs := small_of hl
  rw [cond_false, Large_eq, lives_eq]
  cases hl' : large h' ks' with
  | true => rfl
  | false =>
  have hs' := small_of hl'
  rw [cond_false, ref_Check_eq hs]
  cases hok : okE h ks with
  | false => rfl
  | true =>
  rw [Bool.not_true, cond_false, ref_Check_eq hs']
  cases hok' : okE h' ks' with
  | false => rfl
  | true =>
  have h1 := hs.size
  have h2 := hs.deep
  rw [Bool.not_true, cond_false, cond_true, Show_eq hs, Show_eq hs', Plain_eq hs, Plain_eq hs', Same_eq (by rw [plain_size]; omega) (by rw [plain_deep]; omega), hok, hok']
  have e : decide (mk (textE h ks) = mk (textE h' ks')) = sameE (plainH h) (plainF ks) (plainH h') (plainF ks') := by
    rw [Bool.eq_iff_iff, decide_eq_true_eq, mk_inj, sameE_iff]
    exact text_inj hok hok'
  rw [cond_true, cond_true, e, beq_self_eq_true]

end Go.Proofs.YthbieolladlihaaGreatDoor

/- Expressions that are the same; what is made. -/
import Derived.Test.YthbieolladlihaaDoorKT
import Derived.Test.YthbieolladlihaaDoorKL
set_option linter.unusedVariables false
set_option linter.unusedSimpArgs false
namespace Go.Proofs.YthbieolladlihaaDoor
open Go Go.Aev Go.RowKit Go.Sort

/-! ### two expressions -/
def eqH (h h' : Hd) : Bool := decide (h.k = h'.k) && (decide (h.n = h'.n) && ((decide (h.vk = h'.vk) && (decide (h.vn = h'.vn) && (decide (mk h.vs = mk h'.vs) && true))) && (decide (mk h.tab = mk h'.tab) && decide (mk h.col = mk h'.col))))
def sameL : Fo → Fo → Bool
  | .cons h ks r, .cons h' ks' r' => (eqH h h' && (decide (Int.ofNat ks.len = Int.ofNat ks'.len) && sameL ks ks')) && sameL r r'
  | .nil, .nil => true
  | _, _ => false
def sameE (h : Hd) (ks : Fo) (h' : Hd) (ks' : Fo) : Bool := eqH h h' && (decide (Int.ofNat ks.len = Int.ofNat ks'.len) && sameL ks ks')

def KS {γ : Type} (K : Bool → Option γ) : Ex → Bool → Int → Int → Int → Int → Int → ByteArray → ByteArray → ByteArray → List (List Dat) → Int → Int → Int → Int → ByteArray → ByteArray → ByteArray → List (List Dat) → Option γ :=
  fun z18 z19 _ _ _ _ _ _ _ _ _ _ _ _ _ _ _ _ _ => bif Ex.isExit z18 0 then K true else bif Ex.isRet z18 then K z19 else none
def SameAt (f : Nat) (h : Hd) (ks : Fo) (h' : Hd) (ks' : Fo) : Prop := ∀ (γ : Type) (K : Bool → Option γ),
  Sp.ref10_Same f h.k h.n h.vk h.vn (mk h.vs) (mk h.tab) (mk h.col) ks.enc h'.k h'.n h'.vk h'.vn (mk h'.vs) (mk h'.tab) (mk h'.col) ks'.enc γ K = K (sameE h ks h' ks')
def SameL (F F' : Fo) : Prop := ∀ (T T' : Fo) (i f q : Nat) (v : Bool) (b0 b1 b2 b3 : Int) (b4 b5 b6 : ByteArray) (c0 c1 c2 c3 : Int) (c4 c5 c6 : ByteArray) (γ : Type) (K : Bool → Option γ),
  T.enc.drop i = F.enc → T'.enc.drop i = F'.enc → F.len = F'.len → i + F.len ≤ 1000000 → F.len < q → F.deep < f → F.size ≤ 1000000 →
  Sp.ref10_Same_L0 (Sp.ref10_Same f) q v (i : Int) b0 b1 b2 b3 b4 b5 b6 T.enc c0 c1 c2 c3 c4 c5 c6 T'.enc γ (KS K) = K (sameL F F')

theorem same_E {ks ks' : Fo} (ih : ks.len = ks'.len → SameL ks ks') (h h' : Hd) (f : Nat) (hf : ks.deep + 1 < f) (hs : ks.size ≤ 1000000) : SameAt f h ks h' ks' := by
  intro γ K
  obtain ⟨f, rfl⟩ : ∃ g, f = g + 1 := ⟨f - 1, by omega⟩
  rw [Sp.ref10_Same]
  unfold Sp.B_ref10_Same sameE eqH
  rw [Fo.enc_len, Fo.enc_len]
  cases decide (h.k = h'.k) with
  | false => rfl
  | true =>
  cases decide (h.n = h'.n) with
  | false => rfl
  | true =>
  cases (decide (h.vk = h'.vk) && (decide (h.vn = h'.vn) && (decide (mk h.vs = mk h'.vs) && true))) with
  | false => rfl
  | true =>
  cases decide (mk h.tab = mk h'.tab) with
  | false => rfl
  | true =>
  cases decide (mk h.col = mk h'.col) with
  | false => rfl
  | true =>
  by_cases hl : Int.ofNat ks.len = Int.ofNat ks'.len
  · rw [decide_eq_true hl]
    have hl' : ks.len = ks'.len := Int.ofNat.inj hl
    have hlen := Fo.len_size ks
    exact ih hl' ks ks' 0 f fuel false _ _ _ _ _ _ _ _ _ _ _ _ _ _ γ K rfl rfl hl' (by omega) (by unfold fuel; omega) (by omega) hs
  · rw [decide_eq_false hl]; rfl

theorem same_L : ∀ F F' : Fo, F.len = F'.len → SameL F F'
  | .nil, F', hl => by
    intro T T' i f q v b0 b1 b2 b3 b4 b5 b6 c0 c1 c2 c3 c4 c5 c6 γ K hd hd' hlen hi hq hf hs
    cases F' with
    | cons _ _ _ => simp only [Fo.len] at hl; omega
    | nil =>
    obtain ⟨q, rfl⟩ : ∃ g, q = g + 1 := ⟨q - 1, by omega⟩
    rw [Sp.ref10_Same_L0]
    unfold Sp.B_ref10_Same_L0
    have hl := drop_nil hd
    rw [decide_eq_false (show ¬ (i : Int) < Int.ofNat T.enc.length by simp only [Int.ofNat_eq_natCast]; omega), cond_false]
    rfl
  | .cons h ks r, F', hl => by
    intro T T' i f q v b0 b1 b2 b3 b4 b5 b6 c0 c1 c2 c3 c4 c5 c6 γ K hd hd' hlen hi hq hf hs
    cases F' with
    | nil => simp only [Fo.len] at hl; omega
    | cons h' ks' r' =>
    simp only [Fo.len, Fo.deep, Fo.size] at hl hi hq hf hs
    obtain ⟨q, rfl⟩ : ∃ g, q = g + 1 := ⟨q - 1, by omega⟩
    rw [Sp.ref10_Same_L0]
    unfold Sp.B_ref10_Same_L0
    obtain ⟨hlt, _, hn⟩ := drop_enc hd
    obtain ⟨_, _, hn'⟩ := drop_enc hd'
    rw [decide_eq_true (show (i : Int) < Int.ofNat T.enc.length by simp only [Int.ofNat_eq_natCast]; omega), cond_true, elem_enc hd, elem_enc hd', same_E (fun h0 => same_L ks ks' h0) h h' f (by omega) (by omega), nextI (by omega)]
    show (bif !(sameE h ks h' ks') then _ else _) = K (sameE h ks h' ks' && sameL r r')
    cases sameE h ks h' ks' with
    | false => rfl
    | true => exact same_L r r' (by omega) T T' (i + 1) f q v b0 b1 b2 b3 b4 b5 b6 c0 c1 c2 c3 c4 c5 c6 γ K hn hn' (by omega) (by omega) (by omega) (by omega) (by omega)

theorem Same_eq {h h' : Hd} {ks ks' : Fo} (hs : ks.size ≤ 100000) (hd : ks.deep ≤ 100000) (γ : Type) (K : Bool → Option γ) : Sp.ref10_Same fuel h.k h.n h.vk h.vn (mk h.vs) (mk h.tab) (mk h.col) ks.enc h'.k h'.n h'.vk h'.vn (mk h'.vs) (mk h'.tab) (mk h'.col) ks'.enc γ K = K (sameE h ks h' ks') :=
  same_E (fun h0 => same_L ks ks' h0) h h' fuel (by unfold fuel; omega) (by omega) γ K

theorem eqH_self (h : Hd) : eqH h h = true := by unfold eqH; simp
theorem sameL_self : ∀ F : Fo, sameL F F = true
  | .nil => rfl
  | .cons h ks r => by
    rw [sameL, eqH_self, sameL_self ks, sameL_self r]
    simp
theorem sameE_self (h : Hd) (ks : Fo) : sameE h ks h ks = true := by unfold sameE; rw [eqH_self, sameL_self]; simp

/-! ### the program's Same -/
abbrev EqF := Sp.slices_EqualFunc_api_Expr_api_Expr_api_Expr_api_Expr
abbrev EqF0 := Sp.slices_EqualFunc_api_Expr_api_Expr_api_Expr_api_Expr_L0
def KQ {γ : Type} (K : Bool → Option γ) : Ex → Bool → Int → Option γ := fun z4 z5 _ => bif Ex.isExit z4 0 then K true else bif Ex.isRet z4 then K z5 else none
def GSameAt (f : Nat) (h : Hd) (ks : Fo) (h' : Hd) (ks' : Fo) : Prop := ∀ (γ : Type) (K : Bool → Option γ),
  Sp.expr_Same f h.k h.n h.vk h.vn (mk h.vs) (mk h.tab) (mk h.col) ks.enc h'.k h'.n h'.vk h'.vn (mk h'.vs) (mk h'.tab) (mk h'.col) ks'.enc γ K = K (sameE h ks h' ks')
def GSameL (F F' : Fo) : Prop := ∀ (T T' : Fo) (i g f q : Nat) (v : Bool) (γ : Type) (K : Bool → Option γ),
  T.enc.drop i = F.enc → T'.enc.drop i = F'.enc → F.len = F'.len → i + F.len ≤ 1000000 → F.len < q → 2 * F.deep + 1 ≤ f → F.size ≤ 1000000 →
  EqF0 (EqF g) (Sp.expr_Same f) q T'.enc T.enc (Int.ofNat T.enc.length) v (i : Int) γ (KQ K) = K (sameL F F')
theorem gsame_E {ks ks' : Fo} (ih : ks.len = ks'.len → GSameL ks ks') (h h' : Hd) (f : Nat) (hf : 2 * ks.deep + 3 ≤ f) (hs : ks.size ≤ 1000000) : GSameAt f h ks h' ks' := by
  intro γ K
  obtain ⟨f, rfl⟩ : ∃ g, f = g + 2 := ⟨f - 2, by omega⟩
  rw [Sp.expr_Same, Sp.slices_EqualFunc_api_Expr_api_Expr_api_Expr_api_Expr]
  unfold Sp.B_expr_Same Sp.B_slices_EqualFunc_api_Expr_api_Expr_api_Expr_api_Expr sameE eqH
  rw [Fo.enc_len, Fo.enc_len]
  cases decide (h.k = h'.k) with
  | false => rfl
  | true =>
  cases decide (h.n = h'.n) with
  | false => rfl
  | true =>
  cases (decide (h.vk = h'.vk) && (decide (h.vn = h'.vn) && (decide (mk h.vs = mk h'.vs) && true))) with
  | false => rfl
  | true =>
  cases decide (mk h.tab = mk h'.tab) with
  | false => rfl
  | true =>
  cases decide (mk h.col = mk h'.col) with
  | false => rfl
  | true =>
  by_cases hl : Int.ofNat ks.len = Int.ofNat ks'.len
  · rw [decide_eq_true hl]
    have hl' : ks.len = ks'.len := Int.ofNat.inj hl
    have hlen := Fo.len_size ks
    have := ih hl' ks ks' 0 f f fuel false γ K rfl rfl hl' (by omega) (by unfold fuel; omega) (by omega) hs
    rw [Fo.enc_len] at this
    simp only [cond_true, cond_false, Bool.not_true, Bool.true_and]
    exact this
  · rw [decide_eq_false hl]; rfl
theorem gsame_L : ∀ F F' : Fo, F.len = F'.len → GSameL F F'
  | .nil, F', hl => by
    intro T T' i g f q v γ K hd hd' hlen hi hq hf hs
    cases F' with
    | cons _ _ _ => simp only [Fo.len] at hl; omega
    | nil =>
    obtain ⟨q, rfl⟩ : ∃ g, q = g + 1 := ⟨q - 1, by omega⟩
    unfold EqF0
    rw [Sp.slices_EqualFunc_api_Expr_api_Expr_api_Expr_api_Expr_L0]
    unfold Sp.B_slices_EqualFunc_api_Expr_api_Expr_api_Expr_api_Expr_L0
    have hl := drop_nil hd
    rw [decide_eq_false (show ¬ (i : Int) < Int.ofNat T.enc.length by simp only [Int.ofNat_eq_natCast]; omega), cond_false]
    rfl
  | .cons h ks r, F', hl => by
    intro T T' i g f q v γ K hd hd' hlen hi hq hf hs
    cases F' with
    | nil => simp only [Fo.len] at hl; omega
    | cons h' ks' r' =>
    simp only [Fo.len, Fo.deep, Fo.size] at hl hi hq hf hs
    obtain ⟨q, rfl⟩ : ∃ g, q = g + 1 := ⟨q - 1, by omega⟩
    unfold EqF0
    rw [Sp.slices_EqualFunc_api_Expr_api_Expr_api_Expr_api_Expr_L0]
    unfold Sp.B_slices_EqualFunc_api_Expr_api_Expr_api_Expr_api_Expr_L0
    obtain ⟨hlt, _, hn⟩ := drop_enc hd
    obtain ⟨_, _, hn'⟩ := drop_enc hd'
    rw [decide_eq_true (show (i : Int) < Int.ofNat T.enc.length by simp only [Int.ofNat_eq_natCast]; omega), cond_true, elem_enc hd, elem_enc hd', gsame_E (fun h0 => gsame_L ks ks' h0) h h' f (by omega) (by omega), nextI (by omega)]
    show (bif !(sameE h ks h' ks') then _ else _) = K (sameE h ks h' ks' && sameL r r')
    cases sameE h ks h' ks' with
    | false => rfl
    | true => exact gsame_L r r' (by omega) T T' (i + 1) g f q v γ K hn hn' (by omega) (by omega) (by omega) (by omega) (by omega)
theorem gSame_eq {h h' : Hd} {ks ks' : Fo} (hs : ks.size ≤ 100000) (hd : ks.deep ≤ 100000) (γ : Type) (K : Bool → Option γ) : Sp.expr_Same fuel h.k h.n h.vk h.vn (mk h.vs) (mk h.tab) (mk h.col) ks.enc h'.k h'.n h'.vk h'.vn (mk h'.vs) (mk h'.tab) (mk h'.col) ks'.enc γ K = K (sameE h ks h' ks') :=
  gsame_E (fun h0 => gsame_L ks ks' h0) h h' fuel (by unfold fuel; omega) (by omega) γ K

/-! ### how many parts -/
def arity (n : Int) : Int := if n = 3 ∨ (15 ≤ n ∧ n ≤ 17) then 1 else if 1 ≤ n ∧ n < 15 then 2 else 0
theorem Arity_eq (n : Int) (γ : Type) (K : Int → Option γ) : Sp.expr_Arity n γ K = K (arity n) := by
  unfold Sp.expr_Arity Sp.B_expr_Arity arity
  by_cases h1 : n = 3 <;> by_cases h2 : 15 ≤ n <;> by_cases h3 : n ≤ 17 <;> by_cases h4 : 1 ≤ n <;> by_cases h5 : n < 15 <;> simp [h1, h2, h3, h4, h5] <;> omega
theorem ref_Arity_eq (n : Int) (γ : Type) (K : Int → Option γ) : Sp.ref10_Arity n γ K = K (arity n) := by
  unfold Sp.ref10_Arity Sp.B_ref10_Arity arity
  by_cases h1 : n = 3
  · simp [h1]
  by_cases h2 : n = 15
  · simp [h2]
  by_cases h3 : n = 16
  · simp [h3]
  by_cases h4 : n = 17
  · simp [h4]
  have h5 : ¬ (n = 3 ∨ (15 ≤ n ∧ n ≤ 17)) := by omega
  rw [if_neg h5]
  simp only [h1, h2, h3, h4, decide_false, cond_false]
  by_cases h6 : 1 ≤ n
  · by_cases h7 : n ≤ 17
    · rw [decide_eq_true h6, decide_eq_true h7, if_pos ⟨h6, by omega⟩]; rfl
    · rw [decide_eq_true h6, decide_eq_false h7, if_neg (by omega)]; rfl
  · rw [decide_eq_false h6, if_neg (by omega)]; rfl


/-! ### what is made -/
theorem same_self {h : Hd} {ks : Fo} (hs : ks.size ≤ 100000) (hd : ks.deep ≤ 100000) (γ : Type) (K : Bool → Option γ) : Sp.ref10_Same fuel h.k h.n h.vk h.vn (mk h.vs) (mk h.tab) (mk h.col) ks.enc h.k h.n h.vk h.vn (mk h.vs) (mk h.tab) (mk h.col) ks.enc γ K = K true := by
  rw [Same_eq hs hd, sameE_self]
theorem Lit_eq (a b : Int) (s : ByteArray) (γ : Type) (K : Int → Int → Int → Int → ByteArray → ByteArray → ByteArray → List (List Dat) → Option γ) : Sp.expr_Lit a b s γ K = K 1 0 a b s (mk []) (mk []) Fo.nil.enc := rfl
theorem ref_Lit_eq (a b : Int) (s : ByteArray) (γ : Type) (K : Int → Int → Int → Int → ByteArray → ByteArray → ByteArray → List (List Dat) → Option γ) : Sp.ref10_Lit a b s γ K = K 1 0 a b s (mk []) (mk []) Fo.nil.enc := rfl
theorem Column_eq (a b : ByteArray) (γ : Type) (K : Int → Int → Int → Int → ByteArray → ByteArray → ByteArray → List (List Dat) → Option γ) : Sp.expr_Column a b γ K = K 2 0 0 0 (mk []) a b Fo.nil.enc := rfl
theorem ref_Column_eq (a b : ByteArray) (γ : Type) (K : Int → Int → Int → Int → ByteArray → ByteArray → ByteArray → List (List Dat) → Option γ) : Sp.ref10_Column a b γ K = K 2 0 0 0 (mk []) a b Fo.nil.enc := rfl
theorem ref_Op_eq (n : Int) (l : List (List Dat)) (γ : Type) (K : Int → Int → Int → Int → ByteArray → ByteArray → ByteArray → List (List Dat) → Option γ) : Sp.ref10_Op n l γ K = K 3 n 0 0 (mk []) (mk []) (mk []) l := rfl
theorem sized_enc : ∀ F : Fo, sized F.enc 8 = true
  | .nil => rfl
  | .cons h ks r => by
    have := sized_enc r
    unfold sized at this ⊢
    simp only [Fo.enc, List.all_cons, this]
    rfl
theorem Clone_eq (F : Fo) (hF : F.len ≤ 1000) (γ : Type) (K : List (List Dat) → Option γ) : Sp.slices_Clone_api_Expr_api_Expr F.enc γ K = K F.enc := by
  unfold Sp.slices_Clone_api_Expr_api_Expr
  rw [sized_enc, Fo.enc_len, decide_eq_true (show F.len * 104 ≤ 140737488355328 by omega), decide_eq_true (show F.len ≤ 140737488355328 by omega)]
  rfl
theorem Op_eq (n : Int) (F : Fo) (hF : F.len ≤ 1000) (γ : Type) (K : Int → Int → Int → Int → ByteArray → ByteArray → ByteArray → List (List Dat) → Option γ) : Sp.expr_Op n F.enc γ K = K 3 n 0 0 (mk []) (mk []) (mk []) F.enc := by
  unfold Sp.expr_Op Sp.B_expr_Op
  rw [Clone_eq F hF]; rfl
theorem Agg_eq (n : Int) (F : Fo) (hF : F.len ≤ 1000) (γ : Type) (K : Int → Int → Int → Int → ByteArray → ByteArray → ByteArray → List (List Dat) → Option γ) : Sp.expr_Agg n F.enc γ K = K 4 n 0 0 (mk []) (mk []) (mk []) F.enc := by
  unfold Sp.expr_Agg Sp.B_expr_Agg
  rw [Clone_eq F hF]; rfl

theorem makes (h : Hd) (ks : Fo) (h' : Hd) (ks' : Fo) (n vk vn : Int) (vs tab col : ByteArray) (γ : Type) (K : Bool → Option γ) :
    Sp.law10_ExprMakes h.k h.n h.vk h.vn (mk h.vs) (mk h.tab) (mk h.col) ks.enc h'.k h'.n h'.vk h'.vn (mk h'.vs) (mk h'.tab) (mk h'.col) ks'.enc n vk vn vs tab col γ K = K true := by
  unfold Sp.law10_ExprMakes Sp.B_law10_ExprMakes
  rw [Large_eq, lives_eq, lives_eq]
  cases hl : large h ks with
  | true => rfl
  | false =>
  have hs := small_of hl
  rw [cond_false, Large_eq]
  cases hl' : large h' ks' with
  | true => rfl
  | false =>
  have hs' := small_of hl'
  rw [cond_false]
  cases decide ((200 : Int) < Int.ofNat (ByteArray.size tab)) with
  | true => rfl
  | false =>
  rw [cond_false]
  cases decide ((200 : Int) < Int.ofNat (ByteArray.size col)) with
  | true => rfl
  | false =>
  rw [cond_false]
  cases decide ((500 : Int) < Int.ofNat (ByteArray.size vs)) with
  | true => rfl
  | false =>
  rw [cond_false, cond_true, Lit_eq, ref_Lit_eq]
  obtain ⟨vs, rfl⟩ := exists_mk vs
  obtain ⟨tab, rfl⟩ := exists_mk tab
  obtain ⟨col, rfl⟩ := exists_mk col
  have h1 := hs.size
  have h2 := hs.deep
  have h1' := hs'.size
  have h2' := hs'.deep
  refine (same_self (h := ⟨1, 0, vk, vn, vs, [], []⟩) (ks := .nil) (by decide) (by decide) γ _).trans ?_
  rw [cond_true, Column_eq, ref_Column_eq]
  refine (same_self (h := ⟨2, 0, 0, 0, [], tab, col⟩) (ks := .nil) (by decide) (by decide) γ _).trans ?_
  rw [cond_true]
  refine (Op_eq n (.cons h ks (.cons h' ks' .nil)) (by simp only [Fo.len]; omega) γ _).trans ?_
  rw [ref_Op_eq]
  refine (same_self (h := ⟨3, n, 0, 0, [], [], []⟩) (ks := .cons h ks (.cons h' ks' .nil)) (by simp only [Fo.size]; omega) (by simp only [Fo.deep]; omega) γ _).trans ?_
  rw [cond_true]
  refine (Agg_eq n (.cons h ks .nil) (by simp only [Fo.len]; omega) γ _).trans ?_
  refine (same_self (h := ⟨4, n, 0, 0, [], [], []⟩) (ks := .cons h ks .nil) (by simp only [Fo.size]; omega) (by simp only [Fo.deep]; omega) γ _).trans ?_
  rw [cond_true, gSame_eq (by omega) (by omega), Same_eq (by omega) (by omega), beq_self_eq_true, cond_true, Arity_eq, ref_Arity_eq, decide_eq_true rfl]

end Go.Proofs.YthbieolladlihaaDoor

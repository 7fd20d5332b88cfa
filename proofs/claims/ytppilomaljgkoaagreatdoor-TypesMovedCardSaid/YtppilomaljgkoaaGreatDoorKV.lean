/- The laws, in plain Lean. -/
import Derived.Test.YtppilomaljgkoaaGreatDoorKH
import Derived.Test.YtppilomaljgkoaaGreatDoorKL
set_option linter.unusedVariables false
set_option linter.unusedSimpArgs false
namespace Go.Proofs.YtppilomaljgkoaaGreatDoor
open Go Go.Aev Go.RowKit Go.Sort
def h00 : Hd := ⟨0, 0, 0, 0, [], [], []⟩
def put (pl : Hd → Option Int) (h : Hd) (ks : Fo) : Hd × Fo × Int := cond (okE h ks) (cond (okH pl h && okL pl ks) (bdH pl h, bdL pl ks, 0) (h00, .nil, 140)) (h00, .nil, 100)
theorem put_eq {γ : Type} (pl : Hd → Option Int) (h : Hd) (ks : Fo) (K : KBd γ) : putR pl h ks K = K (put pl h ks).1.k (put pl h ks).1.n (put pl h ks).1.vk (put pl h ks).1.vn (mk (put pl h ks).1.vs) (mk (put pl h ks).1.tab) (mk (put pl h ks).1.col) (put pl h ks).2.1.enc (put pl h ks).2.2 := by
  unfold putR put
  cases okE h ks <;> cases (okH pl h && okL pl ks) <;> rfl
theorem putSz (pl : Hd → Option Int) {h : Hd} {ks : Fo} (hs : Small h ks) : (put pl h ks).2.1.size ≤ 100000 ∧ (put pl h ks).2.1.deep ≤ 100000 := by
  have h1 := hs.size
  have h2 := hs.deep
  unfold put
  cases okE h ks <;> cases (okH pl h && okL pl ks) <;> simp only [cond_true, cond_false, bdL_size, bdL_deep, Fo.size, Fo.deep] <;> omega
def tyO (cs : List Co) (h : Hd) (ks : Fo) : Int × Int := cond (okE h ks) (kdH cs h (kdL cs ks)) (0, 100)
theorem ty_eq {γ : Type} (cs : List Co) (h : Hd) (ks : Fo) (K : Int → Int → Option γ) : tyR cs h ks K = K (tyO cs h ks).1 (tyO cs h ks).2 := by
  unfold tyR tyO
  cases okE h ks <;> rfl
theorem Same_self (h : Hd) (ks : Fo) (h1 : ks.size ≤ 100000) (h2 : ks.deep ≤ 100000) (γ : Type) (K : Bool → Option γ) : Sp.ref10_Same fuel h.k h.n h.vk h.vn (mk h.vs) (mk h.tab) (mk h.col) ks.enc h.k h.n h.vk h.vn (mk h.vs) (mk h.tab) (mk h.col) ks.enc γ K = K true := by
  rw [Same_eq h1 h2, sameE_self]
theorem large_eq (cs : List Co) (γ : Type) (K : Bool → Option γ) : Sp.law14_large (cs.map encC) γ K = K (decide (60 < (cs.length : Int))) := by
  unfold Sp.law14_large Sp.B_law14_large
  rw [List.length_map]
  rfl
theorem law_Finds (cs : List Co) (tab col : List UInt8) (γ : Type) (K : Bool → Option γ) : Sp.law14_TypesFinds (cs.map encC) (mk tab) (mk col) γ K = K true := by
  unfold Sp.law14_TypesFinds Sp.B_law14_TypesFinds
  rw [large_eq]
  by_cases hl : 60 < (cs.length : Int)
  · rw [decide_eq_true hl, cond_true, lives_eq]
  · rw [decide_eq_false hl, cond_false]
    cases decide (500 < Int.ofNat (mk tab).size) with
    | true => rw [cond_true, lives_eq]
    | false =>
    cases decide (500 < Int.ofNat (mk col).size) with
    | true => rw [cond_false, cond_true, lives_eq]
    | false =>
      rw [cond_false, cond_false, Find_eq cs tab col (by omega)]
      cases hf : fnd cs tab col with
      | none =>
        dsimp only
        rw [ref_Find_eq cs tab col (by omega), hf]
        dsimp only
        rw [lives_eq]
        rfl
      | some n =>
        dsimp only
        rw [ref_Find_eq cs tab col (by omega), hf]
        dsimp only
        rw [lives_eq, decide_eq_true rfl]
        rfl
theorem law_Binds (h : Hd) (ks : Fo) (cs : List Co) (γ : Type) (K : Bool → Option γ) : Sp.law14_TypesBinds h.k h.n h.vk h.vn (mk h.vs) (mk h.tab) (mk h.col) ks.enc (cs.map encC) γ K = K true := by
  unfold Sp.law14_TypesBinds Sp.B_law14_TypesBinds
  rw [large_eq]
  by_cases hl : 60 < (cs.length : Int)
  · rw [decide_eq_true hl, cond_true, lives_eq]
  · rw [decide_eq_false hl, cond_false, Large_eq]
    cases hlg : large h ks with
    | true => rw [cond_true, lives_eq]
    | false =>
      have hs := small_of hlg
      have hz := putSz (plB cs) hs
      rw [cond_false, Bind_eq hs cs (by omega), put_eq, ref_Bind_eq hs cs (by omega), put_eq, Type_eq hs, ty_eq, ref_Type_eq hs, ty_eq, lives_eq, cond_true, decide_eq_true rfl, cond_true, Same_self _ _ hz.1 hz.2, cond_true, decide_eq_true rfl, cond_true, decide_eq_true rfl]
theorem may_bd {pl : Hd → Option Int} (hr : ∀ h n, pl h = some n → 0 ≤ n ∧ n < 32) {h : Hd} {m : Nat} (ho : okH pl h = true) (hm : may h m = true) : may (bdH pl h) m = true := by
  unfold okH at ho
  unfold bdH
  by_cases hk : h.k = 2
  · rw [decide_eq_true hk] at ho ⊢
    simp only [Bool.not_true, Bool.false_or] at ho
    obtain ⟨n, hn⟩ := Option.isSome_iff_exists.1 ho
    have := hr h n hn
    rw [cond_true, hn]
    unfold may at hm ⊢
    rw [if_neg (by omega), if_pos hk] at hm
    show (if h.k = 1 then _ else if h.k = 2 then nameOk h.col && ((decide (mk h.tab = bs []) || nameOk h.tab) && (decide (0 ≤ n) && (decide (n < 32) && (nov h && decide (m = 0))))) else _) = true
    rw [if_neg (by omega), if_pos hk, decide_eq_true this.1, decide_eq_true this.2]
    simp only [Bool.and_eq_true] at hm ⊢
    exact ⟨hm.1, hm.2.1, trivial, trivial, hm.2.2.2.2⟩
  · rw [decide_eq_false hk]; exact hm
theorem good_bd {pl : Hd → Option Int} (hr : ∀ h n, pl h = some n → 0 ≤ n ∧ n < 32) : ∀ (F : Fo) (d : Nat) (a : Bool), okL pl F = true → goodL F d a = true → goodL (bdL pl F) d a = true
  | .nil, _, _, _, _ => rfl
  | .cons h ks r, d, a, ho, hg => by
    simp only [okL, Bool.and_eq_true] at ho
    simp only [goodL, Bool.and_eq_true] at hg
    simp only [bdL, goodL, Bool.and_eq_true, bdL_len, bdH_k]
    exact ⟨⟨hg.1.1, may_bd hr ho.1 hg.1.2.1, hg.1.2.2.1, good_bd hr ks _ _ ho.2.1 hg.1.2.2.2⟩, good_bd hr r _ _ ho.2.2 hg.2⟩
theorem ok_bd {pl : Hd → Option Int} (hr : ∀ h n, pl h = some n → 0 ≤ n ∧ n < 32) {h : Hd} {ks : Fo} (ho : okH pl h = true) (hos : okL pl ks = true) (hg : okE h ks = true) : okE (bdH pl h) (bdL pl ks) = true := by
  unfold okE at hg ⊢
  rw [Bool.and_eq_true] at hg ⊢
  refine ⟨good_bd hr (.cons h ks .nil) 1 false (by simp only [okL, ho, hos, Bool.and_self]) hg.1, ?_⟩
  rw [bdL_size]
  exact hg.2
theorem big_bd (pl : Hd → Option Int) (h : Hd) : (bdH pl h).big = h.big := by
  unfold bdH
  cases decide (h.k = 2) <;> rfl
theorem all_bd (pl : Hd → Option Int) : ∀ F : Fo, (bdL pl F).all (fun h => !h.big) = F.all (fun h => !h.big)
  | .nil => rfl
  | .cons h ks r => by simp only [bdL, Fo.all, all_bd pl ks, all_bd pl r, big_bd]
theorem small_bd (pl : Hd → Option Int) {h : Hd} {ks : Fo} (hs : Small h ks) : Small (bdH pl h) (bdL pl ks) :=
  ⟨by rw [bdL_size]; exact hs.size, by rw [bdL_deep]; exact hs.deep, by rw [big_bd]; exact hs.big, by rw [all_bd]; exact hs.all⟩
theorem plB_bd (cs : List Co) (pl : Hd → Option Int) (h : Hd) : plB cs (bdH pl h) = plB cs h := by
  unfold bdH
  cases decide (h.k = 2) <;> rfl
theorem plB_rng (cs : List Co) (h : Hd) (n : Int) (e : plB cs h = some n) : 0 ≤ n ∧ n < 32 := by
  have := fnd_lt (cs := cs) (tab := h.tab) (col := h.col) (n := n) e
  exact ⟨this.1, this.2.1⟩
theorem okH_bd (cs : List Co) (h : Hd) : okH (plB cs) (bdH (plB cs) h) = okH (plB cs) h := by
  unfold okH
  rw [plB_bd, bdH_k]
theorem bdH_bd (cs : List Co) (h : Hd) : bdH (plB cs) (bdH (plB cs) h) = bdH (plB cs) h := by
  have h1 : bdH (plB cs) (bdH (plB cs) h) = cond (decide ((bdH (plB cs) h).k = 2)) { bdH (plB cs) h with n := (plB cs (bdH (plB cs) h)).getD 0 } (bdH (plB cs) h) := rfl
  rw [h1, plB_bd, bdH_k]
  unfold bdH
  cases decide (h.k = 2) <;> rfl
theorem okL_bd (cs : List Co) : ∀ F : Fo, okL (plB cs) (bdL (plB cs) F) = okL (plB cs) F
  | .nil => rfl
  | .cons h ks r => by simp only [bdL, okL, okL_bd cs ks, okL_bd cs r, okH_bd]
theorem bdL_bd (cs : List Co) : ∀ F : Fo, bdL (plB cs) (bdL (plB cs) F) = bdL (plB cs) F
  | .nil => rfl
  | .cons h ks r => by simp only [bdL, bdL_bd cs ks, bdL_bd cs r, bdH_bd]
theorem ofT_two (k n : Int) (l : List Int) : (ofT k n l).2 = 0 ∨ (ofT k n l).2 = 141 := by
  unfold ofT
  cases (ofP k n l).2
  · exact .inr rfl
  · exact .inl rfl
theorem kdH_two (cs : List Co) (h : Hd) (l : List Int × Int) (ho : okH (plB cs) h = true) (hl : l.2 = 0 ∨ l.2 = 141) : (kdH cs (bdH (plB cs) h) l).2 = 0 ∨ (kdH cs (bdH (plB cs) h) l).2 = 141 := by
  unfold kdH
  rw [bdH_k]
  split
  · exact .inl rfl
  · split
    · rename_i h2
      unfold okH at ho
      rw [decide_eq_true h2] at ho
      simp only [Bool.not_true, Bool.false_or] at ho
      obtain ⟨n, hn⟩ := Option.isSome_iff_exists.1 ho
      have := fnd_lt (cs := cs) (tab := h.tab) (col := h.col) (n := n) hn
      unfold bdH
      rw [decide_eq_true h2, cond_true, hn]
      show (match cs[n.toNat]? with
        | some c => (c.ty, (0 : Int))
        | none => (0, 140)).2 = 0 ∨ _
      rw [List.getElem?_eq_getElem (by omega)]
      exact .inl rfl
    · split
      · exact ofT_two _ _ _
      · exact hl
theorem kdL_two (cs : List Co) : ∀ F : Fo, okL (plB cs) F = true → (kdL cs (bdL (plB cs) F)).2 = 0 ∨ (kdL cs (bdL (plB cs) F)).2 = 141
  | .nil, _ => .inl rfl
  | .cons h ks r, ho => by
    simp only [okL, Bool.and_eq_true] at ho
    have h1 := kdH_two cs h _ ho.1 (kdL_two cs ks ho.2.1)
    have h2 := kdL_two cs r ho.2.2
    rw [bdL, kdL]
    split
    · exact h2
    · exact h1
theorem law_Twice (h : Hd) (ks : Fo) (cs : List Co) (γ : Type) (K : Bool → Option γ) : Sp.law14_TypesTwice h.k h.n h.vk h.vn (mk h.vs) (mk h.tab) (mk h.col) ks.enc (cs.map encC) γ K = K true := by
  unfold Sp.law14_TypesTwice Sp.B_law14_TypesTwice
  rw [large_eq]
  by_cases hl : 60 < (cs.length : Int)
  · rw [decide_eq_true hl, cond_true, lives_eq]
  · rw [decide_eq_false hl, cond_false, Large_eq]
    cases hlg : large h ks with
    | true => rw [cond_true, lives_eq]
    | false =>
      have hs := small_of hlg
      have hz := putSz (plB cs) hs
      rw [cond_false, Bind_eq hs cs (by omega), put_eq, lives_eq, Bool.not_true, cond_false]
      by_cases h0 : (put (plB cs) h ks).2.2 = 0
      · rw [decide_eq_true h0, Bool.not_true, cond_false]
        have hp : okE h ks = true ∧ okH (plB cs) h = true ∧ okL (plB cs) ks = true := by
          unfold put at h0
          cases h1 : okE h ks with
          | false => rw [h1] at h0; exact absurd (show (100 : Int) = 0 from h0) (by decide)
          | true =>
            cases h2 : (okH (plB cs) h && okL (plB cs) ks) with
            | false => rw [h1, h2] at h0; exact absurd (show (140 : Int) = 0 from h0) (by decide)
            | true => rw [Bool.and_eq_true] at h2; exact ⟨rfl, h2⟩
        have e1 : put (plB cs) h ks = (bdH (plB cs) h, bdL (plB cs) ks, 0) := by
          unfold put
          rw [hp.1, hp.2.1, hp.2.2]
          rfl
        have hs' := small_bd (plB cs) hs
        have hok := ok_bd (plB_rng cs) hp.2.1 hp.2.2 hp.1
        have e2 : put (plB cs) (bdH (plB cs) h) (bdL (plB cs) ks) = (bdH (plB cs) h, bdL (plB cs) ks, 0) := by
          unfold put
          rw [hok, okH_bd, okL_bd, hp.2.1, hp.2.2, bdH_bd, bdL_bd]
          rfl
        rw [e1] at hz ⊢
        dsimp only at hz ⊢
        rw [Bind_eq hs' cs (by omega), put_eq, e2]
        dsimp only
        rw [Type_eq hs', ty_eq, decide_eq_true rfl, cond_true, Same_self _ _ hz.1 hz.2, cond_true]
        have e3 : tyO cs (bdH (plB cs) h) (bdL (plB cs) ks) = kdH cs (bdH (plB cs) h) (kdL cs (bdL (plB cs) ks)) := by unfold tyO; rw [hok]; rfl
        rw [e3]
        rcases kdH_two cs h _ hp.2.1 (kdL_two cs ks hp.2.2) with e | e
        · rw [e]; rfl
        · rw [e]; rfl
      · rw [decide_eq_false h0, Bool.not_false, cond_true, lives_eq]
theorem uses_len (ns : List Int) : (usesOf ns).length ≤ ns.length := by
  unfold usesOf Lib.compact Lib.compactUpTo
  rw [List.length_map]
  refine Nat.le_trans (List.length_filter_le _ _) ?_
  rw [List.length_range]
  exact Nat.le_of_eq (sortUp_perm ns).length_eq
theorem law_Moves (h : Hd) (ks : Fo) (ps : List Int) (γ : Type) (K : Bool → Option γ) : Sp.law14_TypesMoves h.k h.n h.vk h.vn (mk h.vs) (mk h.tab) (mk h.col) ks.enc (ps.map iEnc) γ K = K true := by
  unfold Sp.law14_TypesMoves Sp.B_law14_TypesMoves
  rw [Large_eq]
  cases hlg : large h ks with
  | true => rw [cond_true, lives_eq]
  | false =>
    rw [cond_false]
    cases decide (100 < Int.ofNat (List.length (ps.map iEnc))) with
    | true => rw [cond_true, lives_eq]
    | false =>
      have hs := small_of hlg
      have hz := putSz (plM ps) hs
      have h1 := hs.size
      have hlen := colsE_len h ks
      have hul := uses_len (ixs h ks)
      have hil : (ixs h ks).length = (colsE h ks).length := by unfold ixs; rw [List.length_map]
      have hsame : ∀ (K : Bool → Option γ), Sp.ref07_Same (cond (okE h ks) ((usesOf (ixs h ks)).map iEnc) []) (cond (okE h ks) ((usesOf (ixs h ks)).map iEnc) []) γ K = K true := by
        intro K
        cases okE h ks with
        | true => exact same_I _ (by omega) γ K
        | false => exact same_I [] (by simp) γ K
      rw [cond_false, Move_eq hs, put_eq, ref_Move_eq hs, put_eq, lives_eq, cond_true, decide_eq_true rfl, cond_true, Same_self _ _ hz.1 hz.2, cond_true, Uses_eq hs, ref_Uses_eq hs, hsame]
theorem plM_rng (ps : List Int) (h : Hd) (n : Int) (e : plM ps h = some n) : 0 ≤ n ∧ n < 32 := by
  unfold plM at e
  cases hp : ps[h.n.toNat]? with
  | none => rw [hp] at e; cases e
  | some p =>
    rw [hp] at e
    simp only at e
    by_cases h1 : 0 ≤ p
    · by_cases h2 : p < 32
      · rw [decide_eq_true h1, decide_eq_true h2] at e; cases e; exact ⟨h1, h2⟩
      · rw [decide_eq_false h2, Bool.and_false] at e; cases e
    · rw [decide_eq_false h1] at e; cases e
def psOf (n by_ : Nat) : List Int := (List.range n).map fun (i : Nat) => ((i + by_ : Nat) : Int)
def c00 : Co := ⟨[], [], 0⟩
def more (cs : List Co) (by_ : Nat) : List Co := List.replicate by_ c00 ++ cs
theorem kdH_more (cs : List Co) (by_ : Nat) (h : Hd) (l : List Int × Int) (hc : cn h = true) (ho : okH (plM (psOf cs.length by_)) h = true) : kdH (more cs by_) (bdH (plM (psOf cs.length by_)) h) l = kdH cs h l := by
  by_cases hk : h.k = 2
  · unfold okH at ho
    unfold cn at hc
    rw [decide_eq_true hk] at ho hc
    simp only [Bool.not_true, Bool.false_or, decide_eq_true_eq] at ho hc
    obtain ⟨n, hn⟩ := Option.isSome_iff_exists.1 ho
    have hn2 : h.n.toNat < cs.length ∧ n = ((h.n.toNat + by_ : Nat) : Int) := by
      unfold plM psOf at hn
      by_cases hlt : h.n.toNat < cs.length
      · rw [List.getElem?_map, List.getElem?_range hlt] at hn
        simp only [Option.map_some] at hn
        refine ⟨hlt, ?_⟩
        cases hx : (decide ((0 : Int) ≤ ((h.n.toNat + by_ : Nat) : Int)) && decide (((h.n.toNat + by_ : Nat) : Int) < 32)) with
        | true => rw [hx] at hn; exact (Option.some.inj hn).symm
        | false => rw [hx] at hn; cases hn
      · rw [List.getElem?_map, List.getElem?_eq_none (by rw [List.length_range]; omega)] at hn; cases hn
    unfold kdH bdH
    rw [decide_eq_true hk, cond_true, hn]
    show (if h.k = 1 then _ else if h.k = 2 then (match (more cs by_)[n.toNat]? with
      | some c => (c.ty, (0 : Int))
      | none => (0, 140)) else _) = _
    rw [if_neg (by omega), if_pos hk, if_neg (by omega), if_pos hk, hn2.2, Int.toNat_natCast]
    unfold more
    rw [List.getElem?_append_right (by rw [List.length_replicate]; omega), List.length_replicate, Nat.add_sub_cancel]
    cases cs[h.n.toNat]? <;> rfl
  · unfold bdH kdH
    rw [decide_eq_false hk, cond_false, if_neg hk, if_neg hk]
theorem kdL_more (cs : List Co) (by_ : Nat) : ∀ F : Fo, F.all cn = true → okL (plM (psOf cs.length by_)) F = true → kdL (more cs by_) (bdL (plM (psOf cs.length by_)) F) = kdL cs F
  | .nil, _, _ => rfl
  | .cons h ks r, hc, ho => by
    simp only [Fo.all, Bool.and_eq_true] at hc
    simp only [okL, Bool.and_eq_true] at ho
    rw [bdL, kdL, kdL, kdL_more cs by_ ks hc.1.2 ho.2.1, kdL_more cs by_ r hc.2 ho.2.2, kdH_more cs by_ h _ hc.1.1 ho.1]
theorem moved_loop (cs : List Co) (hl : cs.length ≤ 100000) (by_ : Nat) (hb : by_ ≤ 1000) (mo : List (List Dat)) (hm : sized mo 3 = true) (b0 b1 b2 b3 : Int) (b4 b5 b6 : ByteArray) (b7 : List (List Dat)) (γ : Type) (K : Ex → List (List Dat) → List (List Dat) → Int → Int → Int → Int → Int → ByteArray → ByteArray → ByteArray → List (List Dat) → Option γ) : ∀ (d i n : Nat), cs.length = i + d → d < n →
    Sp.law14_TypesMoved_L0 n (cs.map encC) (by_ : Int) ((psOf i by_).map iEnc) mo (i : Int) b0 b1 b2 b3 b4 b5 b6 b7 γ K = K (.exit 0) ((psOf cs.length by_).map iEnc) mo (cs.length : Int) b0 b1 b2 b3 b4 b5 b6 b7 := by
  intro d
  induction d with
  | zero =>
    intro i n hi hn
    obtain ⟨n, rfl⟩ : ∃ m, n = m + 1 := ⟨n - 1, by omega⟩
    obtain rfl : i = cs.length := by omega
    rw [Sp.law14_TypesMoved_L0]
    unfold Sp.B_law14_TypesMoved_L0
    rw [sized_I, hm, List.length_map, decide_eq_false (by simp only [Int.ofNat_eq_natCast]; omega)]
    rfl
  | succ d ih =>
    intro i n hi hn
    obtain ⟨n, rfl⟩ : ∃ m, n = m + 1 := ⟨n - 1, by omega⟩
    have hpl : (psOf i by_).length = i := by unfold psOf; simp
    rw [Sp.law14_TypesMoved_L0]
    unfold Sp.B_law14_TypesMoved_L0
    rw [sized_I, hm, List.length_map, List.length_map, hpl, decide_eq_true (show (i : Int) < Int.ofNat cs.length by simp only [Int.ofNat_eq_natCast]; omega), decide_eq_true (show (i + 1) * 9 ≤ 70368744177664 by omega)]
    simp only [Bool.and_self, cond_true]
    rw [map_snoc, wrap_i64 (by omega), nextI (by omega), show psOf i by_ ++ [(i : Int) + (by_ : Int)] = psOf (i + 1) by_ by
      unfold psOf
      rw [List.range_succ, List.map_append]
      congr 1]
    exact ih (i + 1) n (by omega) (by omega)
theorem law_Moved (h : Hd) (ks : Fo) (cs : List Co) (b : Int) (γ : Type) (K : Bool → Option γ) : Sp.law14_TypesMoved h.k h.n h.vk h.vn (mk h.vs) (mk h.tab) (mk h.col) ks.enc (cs.map encC) b γ K = K true := by
  unfold Sp.law14_TypesMoved Sp.B_law14_TypesMoved
  rw [large_eq]
  by_cases hl : 60 < (cs.length : Int)
  · rw [decide_eq_true hl, cond_true, lives_eq]
  rw [decide_eq_false hl, cond_false, Large_eq]
  cases hlg : large h ks with
  | true => rw [cond_true, lives_eq]
  | false =>
  rw [cond_false]
  by_cases hb0 : b < 0
  · rw [decide_eq_true hb0, cond_true, lives_eq]
  rw [decide_eq_false hb0, cond_false]
  by_cases hb1 : 20 < b
  · rw [decide_eq_true hb1, cond_true, lives_eq]
  rw [decide_eq_false hb1, cond_false]
  obtain ⟨by_, rfl⟩ : ∃ n : Nat, b = (n : Int) := ⟨b.toNat, by omega⟩
  have hs := small_of hlg
  rw [decide_eq_true (show (0 : Int) ≤ (by_ : Int) by omega), decide_eq_true (Int.le_refl _), decide_eq_true (show (by_ : Int) * 41 ≤ 70368744177664 by omega)]
  simp only [Bool.and_self, cond_true, Int.toNat_natCast]
  have hrep : List.replicate by_ [Dat.str (bs []), Dat.str (bs []), Dat.int IntKind.i64 0] = (List.replicate by_ c00).map encC := by rw [List.map_replicate]; rfl
  rw [hrep]
  refine (moved_loop cs (by omega) by_ (by omega) _ (sized_C _) _ _ _ _ _ _ _ _ γ _ cs.length 0 fuel (by omega) (by unfold fuel; omega)).trans ?_
  rw [sized_I, sized_C, sized_C, List.length_map, List.length_map, List.length_replicate, decide_eq_true (show (by_ + cs.length) * 41 ≤ 70368744177664 by omega)]
  simp only [Bool.and_self, cond_true, Ex.isExit, beq_self_eq_true]
  rw [Move_eq hs, put_eq, lives_eq, Bool.not_true, cond_false]
  by_cases h0 : (put (plM (psOf cs.length by_)) h ks).2.2 = 0
  · rw [decide_eq_true h0, Bool.not_true, cond_false]
    have hp : okE h ks = true ∧ okH (plM (psOf cs.length by_)) h = true ∧ okL (plM (psOf cs.length by_)) ks = true := by
      unfold put at h0
      cases h1 : okE h ks with
      | false => rw [h1] at h0; exact absurd (show (100 : Int) = 0 from h0) (by decide)
      | true =>
        cases h2 : (okH (plM (psOf cs.length by_)) h && okL (plM (psOf cs.length by_)) ks) with
        | false => rw [h1, h2] at h0; exact absurd (show (140 : Int) = 0 from h0) (by decide)
        | true => rw [Bool.and_eq_true] at h2; exact ⟨rfl, h2⟩
    have e1 : put (plM (psOf cs.length by_)) h ks = (bdH (plM (psOf cs.length by_)) h, bdL (plM (psOf cs.length by_)) ks, 0) := by
      unfold put
      rw [hp.1, hp.2.1, hp.2.2]
      rfl
    have hs' := small_bd (plM (psOf cs.length by_)) hs
    have hok := ok_bd (plM_rng _) hp.2.1 hp.2.2 hp.1
    rw [e1, Type_eq hs, ty_eq]
    dsimp only
    rw [← List.map_append, show List.replicate by_ c00 ++ cs = more cs by_ from rfl, Type_eq hs', ty_eq]
    have hcn := ok_cn hp.1
    simp only [Fo.all, Bool.and_eq_true] at hcn
    have e3 : tyO (more cs by_) (bdH (plM (psOf cs.length by_)) h) (bdL (plM (psOf cs.length by_)) ks) = tyO cs h ks := by
      unfold tyO
      rw [hok, hp.1, cond_true, cond_true, kdL_more cs by_ ks hcn.1.2 hp.2.2, kdH_more cs by_ h _ hcn.1.1 hp.2.1]
    rw [e3, decide_eq_true rfl, decide_eq_true rfl]
    rfl
  · rw [decide_eq_false h0, Bool.not_false, cond_true, lives_eq]
end Go.Proofs.YtppilomaljgkoaaGreatDoor

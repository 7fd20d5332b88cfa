/- Move, and Uses. -/
import Derived.Test.YtppilomaljgkoaaGreatDoorKF
set_option linter.unusedVariables false
set_option linter.unusedSimpArgs false
namespace Go.Proofs.YtppilomaljgkoaaGreatDoor
open Go Go.Aev Go.RowKit Go.Sort
def plM (ps : List Int) (h : Hd) : Option Int := match ps[h.n.toNat]? with
  | none => none
  | some p => cond (decide (0 ≤ p) && decide (p < 32)) (some p) none
theorem plM_ok (ps : List Int) : PlOk Sp.types_Move_1 (ps.map iEnc) (plM ps) := by
  intro h ks _ h0 γ K
  unfold Sp.types_Move_1 Sp.B_types_Move_1 plM
  rw [List.length_map]
  by_cases h3 : Int.ofNat ps.length ≤ h.n
  · rw [decide_eq_true h3, List.getElem?_eq_none (by simp only [Int.ofNat_eq_natCast] at h3; omega)]; rfl
  · have hlt : h.n.toNat < ps.length := by simp only [Int.ofNat_eq_natCast] at h3; omega
    have he : ∀ {β : Type} (G : Int → Option β), (elemAt (ps.map iEnc) h.n fun z => bif List.length z == 1 then cellAt z 0 fun z1 => Aev.asInt IntKind.i64 z1 fun a => G a else none) = G ps[h.n.toNat] := by
      intro β G
      have := elem_I hlt G
      rw [Int.toNat_of_nonneg h0] at this
      exact this
    rw [decide_eq_false h3, cond_false, List.getElem?_eq_getElem hlt, he]
    by_cases h1 : 0 ≤ ps[h.n.toNat]
    · rw [decide_eq_false (show ¬ ps[h.n.toNat] < 0 by omega), cond_false, he]
      by_cases h2 : ps[h.n.toNat] < 32
      · rw [decide_eq_false (show ¬ (32 : Int) ≤ ps[h.n.toNat] by omega), cond_false, he]
        simp only [decide_eq_true h1, decide_eq_true h2, Bool.and_self, cond_true]
      · rw [decide_eq_true (show (32 : Int) ≤ ps[h.n.toNat] by omega), cond_true]
        simp only [decide_eq_false h2, Bool.and_false, cond_false]
    · rw [decide_eq_true (show ps[h.n.toNat] < 0 by omega), cond_true]
      simp only [decide_eq_false h1, Bool.false_and, cond_false]
theorem Move_eq {h : Hd} {ks : Fo} (hs : Small h ks) (ps : List Int) (γ : Type) (K : KBd γ) :
    Sp.types_Move h.k h.n h.vk h.vn (mk h.vs) (mk h.tab) (mk h.col) ks.enc (ps.map iEnc) γ K = putR (plM ps) h ks K := by
  unfold Sp.types_Move Sp.B_types_Move Sp.types_placed'1 Sp.B_types_placed'1 putR
  rw [Check_eq hs, each_M]
  cases ho : okE h ks with
  | false => rfl
  | true =>
    refine (each_one (plM_ok ps) hs ho γ _).trans ?_
    cases (okH (plM ps) h && okL (plM ps) ks) <;> rfl
def preH : Fo → List (Hd × Fo)
  | .nil => []
  | .cons h ks r => (h, ks) :: (preH ks ++ preH r)
theorem pre_H : ∀ F : Fo, pre F = (preH F).map fun x => encE x.1 x.2
  | .nil => rfl
  | .cons h ks r => by simp only [pre, preH, List.map_cons, List.map_append, pre_H ks, pre_H r]
theorem preH_len : ∀ F : Fo, (preH F).length = F.size
  | .nil => rfl
  | .cons h ks r => by simp only [preH, List.length_cons, List.length_append, preH_len ks, preH_len r, Fo.size]; omega
def colsL (F : Fo) : List (Hd × Fo) := (preH F).filter fun x => decide (x.1.k = 2)
def colsE (h : Hd) (ks : Fo) : List (Hd × Fo) := colsL (.cons h ks .nil)
theorem cols_enc (h : Hd) (ks : Fo) : (encE h ks :: pre ks).filter (isKind 2) = (colsE h ks).map fun x => encE x.1 x.2 := by
  unfold colsE colsL
  simp only [preH, List.append_nil]
  rw [show encE h ks :: pre ks = ((h, ks) :: preH ks).map (fun x => encE x.1 x.2) by rw [List.map_cons, pre_H], List.filter_map]
  rfl
theorem cols_all (pl : Hd → Option Int) : ∀ F : Fo, ((colsL F).all fun x => (pl x.1).isSome) = okL pl F
  | .nil => rfl
  | .cons h ks r => by
    have h1 := cols_all pl ks
    have h2 := cols_all pl r
    unfold colsL at h1 h2 ⊢
    simp only [preH, okL, List.filter_cons, List.filter_append]
    rw [← h1, ← h2]
    unfold okH
    by_cases hk : h.k = 2
    · rw [if_pos (decide_eq_true hk), decide_eq_true hk, List.all_cons, List.all_append]; simp
    · rw [if_neg (by simpa using hk), decide_eq_false hk, List.all_append]; simp
theorem cols_cn {F : Fo} (hF : F.all cn = true) : ∀ x ∈ colsL F, 0 ≤ x.1.n := by
  induction F with
  | nil => intro x hx; cases hx
  | cons h ks r ih1 ih2 =>
    intro x hx
    simp only [Fo.all, Bool.and_eq_true] at hF
    have h1 := ih1 hF.1.2
    have h2 := ih2 hF.2
    unfold colsL at h1 h2 hx
    simp only [preH, List.mem_filter, List.mem_cons, List.mem_append, decide_eq_true_eq] at h1 h2 hx
    rcases hx with ⟨rfl | hx | hx, hk⟩
    · have := hF.1.1
      unfold cn at this
      rw [decide_eq_true hk] at this
      simpa using this
    · exact h1 x ⟨hx, hk⟩
    · exact h2 x ⟨hx, hk⟩
theorem elem_N {β : Type} {L : List (Hd × Fo)} {i : Nat} (hlt : i < L.length) (G : Int → Option β) :
    (elemAt (L.map fun x => encE x.1 x.2) (i : Int) fun z => bif List.length z == 8 then cellAt (List.drop 1 z) 0 fun z1 => Aev.asInt IntKind.i64 z1 fun a => G a else none) = G L[i].1.n := by
  have he : (L.map fun x => encE x.1 x.2)[i]? = some (encE L[i].1 L[i].2) := by rw [List.getElem?_map, List.getElem?_eq_getElem hlt]; rfl
  rw [elemAt_some he]
  rfl
theorem elem_P {β : Type} {ps : List Int} {n : Int} (h0 : 0 ≤ n) (hlt : n.toNat < ps.length) (G : Int → Option β) :
    (elemAt (ps.map iEnc) n fun z => bif List.length z == 1 then cellAt z 0 fun z1 => Aev.asInt IntKind.i64 z1 fun a => G a else none) = G ps[n.toNat] := by
  have := elem_I hlt G
  rw [Int.toNat_of_nonneg h0] at this
  exact this
abbrev KMv (γ : Type) := Int → Int → Int → Int → ByteArray → ByteArray → ByteArray → List (List Dat) → Option γ
def KRm {γ : Type} (K : KMv γ) : Ex → List (List Dat) → Int → Int → Int → Int → Int → ByteArray → ByteArray → ByteArray → List (List Dat) → Int → Int → Int → Int → ByteArray → ByteArray → ByteArray → List (List Dat) → Option γ :=
  fun z14 z15 z16 z17 z18 z19 z20 z21 z22 z23 z24 z25 z26 z27 z28 z29 z30 z31 z32 => bif sized z15 8 then bif Ex.isExit z14 0 then K z17 z18 z19 z20 z21 z22 z23 z15 else bif Ex.isRet z14 then K z25 z26 z27 z28 z29 z30 z31 z32 else none else none
def RmE (ps : List Int) (f : Nat) (h : Hd) (ks : Fo) : Prop := ∀ (γ : Type) (K : KMv γ),
  Sp.ref14_move f h.k h.n h.vk h.vn (mk h.vs) (mk h.tab) (mk h.col) ks.enc (ps.map iEnc) γ K = K (bdH (plM ps) h).k (bdH (plM ps) h).n (bdH (plM ps) h).vk (bdH (plM ps) h).vn (mk (bdH (plM ps) h).vs) (mk (bdH (plM ps) h).tab) (mk (bdH (plM ps) h).col) (bdL (plM ps) ks).enc
def RmL (ps : List Int) (F : Fo) : Prop := ∀ (T : Fo) (i f q : Nat) (out : List (List Dat)) (b0 b1 b2 b3 : Int) (b4 b5 b6 : ByteArray) (γ : Type) (K : KMv γ),
  T.enc.drop i = F.enc → F.all cn = true → okL (plM ps) F = true → sized out 8 = true → i + F.len ≤ 100000 → out.length + F.len ≤ 100000 → F.size ≤ 100000 → F.len < q → F.deep < f →
  Sp.ref14_move_L0 (Sp.ref14_move f) q (ps.map iEnc) out (i : Int) b0 b1 b2 b3 b4 b5 b6 T.enc 0 0 0 0 (bs []) (bs []) (bs []) [] γ (KRm K) = K b0 b1 b2 b3 b4 b5 b6 (out ++ (bdL (plM ps) F).enc)
theorem rm_E {ps : List Int} {ks : Fo} (ih : RmL ps ks) (h : Hd) (f : Nat) (hc : cn h = true) (hcs : ks.all cn = true) (ho : okH (plM ps) h = true) (hos : okL (plM ps) ks = true) (hf : ks.deep + 1 < f) (hl : ks.size ≤ 100000) : RmE ps f h ks := by
  intro γ K
  obtain ⟨f, rfl⟩ : ∃ g, f = g + 1 := ⟨f - 1, by omega⟩
  have hlen := Fo.len_size ks
  rw [Sp.ref14_move]
  unfold Sp.B_ref14_move bdH
  by_cases hk : h.k = 2
  · unfold cn at hc
    unfold okH at ho
    rw [decide_eq_true hk] at hc ho
    simp only [Bool.not_true, Bool.false_or, decide_eq_true_eq] at hc ho
    have hp : ∃ hlt : h.n.toNat < ps.length, plM ps h = some ps[h.n.toNat] := by
      unfold plM at ho ⊢
      by_cases hlt : h.n.toNat < ps.length
      · refine ⟨hlt, ?_⟩
        rw [List.getElem?_eq_getElem hlt] at ho ⊢
        simp only at ho ⊢
        cases hx : (decide (0 ≤ ps[h.n.toNat]) && decide (ps[h.n.toNat] < 32)) with
        | true => rfl
        | false => rw [hx] at ho; cases ho
      · rw [List.getElem?_eq_none (by omega)] at ho; cases ho
    obtain ⟨hlt, hp⟩ := hp
    rw [decide_eq_true hk, cond_true, elem_P hc hlt, hp]
    refine (ih ks 0 f fuel [] h.k _ h.vk h.vn (mk h.vs) (mk h.tab) (mk h.col) γ K rfl hcs hos rfl (by omega) (by simp; omega) hl (by unfold fuel; omega) (by omega)).trans ?_
    rfl
  · rw [decide_eq_false hk]
    refine (ih ks 0 f fuel [] h.k h.n h.vk h.vn (mk h.vs) (mk h.tab) (mk h.col) γ K rfl hcs hos rfl (by omega) (by simp; omega) hl (by unfold fuel; omega) (by omega)).trans ?_
    rfl
theorem rm_L (ps : List Int) : ∀ F : Fo, RmL ps F
  | .nil => by
    intro T i f q out b0 b1 b2 b3 b4 b5 b6 γ K hd hc hok ho hi hout hsz hq hf
    obtain ⟨q, rfl⟩ : ∃ g, q = g + 1 := ⟨q - 1, by omega⟩
    rw [Sp.ref14_move_L0]
    unfold Sp.B_ref14_move_L0
    have hl := drop_nil hd
    rw [ho, decide_eq_false (show ¬ (i : Int) < Int.ofNat T.enc.length by simp only [Int.ofNat_eq_natCast]; omega), cond_true, cond_false]
    unfold KRm
    rw [ho]
    simp only [bdL, Fo.enc, List.append_nil]
    rfl
  | .cons h ks r => by
    intro T i f q out b0 b1 b2 b3 b4 b5 b6 γ K hd hc hok ho hi hout hsz hq hf
    simp only [Fo.len, Fo.deep, Fo.size] at hi hout hsz hq hf
    simp only [Fo.all, Bool.and_eq_true] at hc
    simp only [okL, Bool.and_eq_true] at hok
    obtain ⟨q, rfl⟩ : ∃ g, q = g + 1 := ⟨q - 1, by omega⟩
    rw [Sp.ref14_move_L0]
    unfold Sp.B_ref14_move_L0
    obtain ⟨hlt, _, hn⟩ := drop_enc hd
    rw [ho, cond_true, decide_eq_true (show (i : Int) < Int.ofNat T.enc.length by simp only [Int.ofNat_eq_natCast]; omega), cond_true, elem_enc hd, rm_E (rm_L ps ks) h f hc.1.1 hc.1.2 hok.1 hok.2.1 (by omega) (by omega), nextI (by omega)]
    rw [decide_eq_true (show (out.length + 1) * 105 ≤ 70368744177664 by omega)]
    simp only [Bool.and_self, cond_true, Bool.and_true]
    refine (rm_L ps r T (i + 1) f q (out ++ [encE (bdH (plM ps) h) (bdL (plM ps) ks)]) b0 b1 b2 b3 b4 b5 b6 γ K hn hc.2 hok.2.2 (sized_append ho rfl) (by omega) (by rw [List.length_append, List.length_singleton]; omega) (by omega) (by omega) (by omega)).trans ?_
    rw [List.append_assoc]
    rfl
theorem mv_loop {γ : Type} (ps : List Int) (L : List (Hd × Fo)) (hL : L.length ≤ 16777216) (h0 : ∀ x ∈ L, 0 ≤ x.1.n) (b0 b1 b2 b3 : Int) (b4 b5 b6 : ByteArray) (b7 : List (List Dat)) (G : Int → Int → Int → Int → ByteArray → ByteArray → ByteArray → List (List Dat) → Option γ) (K : KBd γ) : ∀ (d i n : Nat), L.length = i + d → d < n →
    (Sp.ref14_Move_L0 n (ps.map iEnc) (L.map fun x => encE x.1 x.2) 0 (i : Int) b0 b1 b2 b3 b4 b5 b6 b7 0 0 0 0 (bs []) (bs []) (bs []) [] γ fun z13 z14 z15 z16 z17 z18 z19 z20 z21 z22 z23 z24 z25 z26 z27 z28 z29 z30 z31 => bif Ex.isExit z13 0 then G z16 z17 z18 z19 z20 z21 z22 z23 else bif Ex.isRet z13 then K z24 z25 z26 z27 z28 z29 z30 z31 z14 else none) =
      cond ((L.drop i).all fun x => (plM ps x.1).isSome) (G b0 b1 b2 b3 b4 b5 b6 b7) (K 0 0 0 0 (bs []) (bs []) (bs []) [] 140) := by
  intro d
  induction d with
  | zero =>
    intro i n hi hn
    obtain ⟨n, rfl⟩ : ∃ m, n = m + 1 := ⟨n - 1, by omega⟩
    have : L.drop i = [] := List.drop_eq_nil_of_le (by omega)
    rw [this, Sp.ref14_Move_L0]
    unfold Sp.B_ref14_Move_L0
    rw [List.length_map, decide_eq_false (by simp only [Int.ofNat_eq_natCast]; omega)]
    rfl
  | succ d ih =>
    intro i n hi hn
    obtain ⟨n, rfl⟩ : ∃ m, n = m + 1 := ⟨n - 1, by omega⟩
    have hlt : i < L.length := by omega
    have hd : L.drop i = L[i] :: L.drop (i + 1) := List.drop_eq_getElem_cons hlt
    have hz := h0 L[i] (List.getElem_mem hlt)
    rw [Sp.ref14_Move_L0]
    unfold Sp.B_ref14_Move_L0
    rw [List.length_map, List.length_map, decide_eq_true (by simp only [Int.ofNat_eq_natCast]; omega), cond_true, elem_N hlt, hd, List.all_cons, nextI (by omega)]
    unfold plM
    by_cases h3 : Int.ofNat ps.length ≤ L[i].1.n
    · rw [decide_eq_true h3, List.getElem?_eq_none (by simp only [Int.ofNat_eq_natCast] at h3; omega)]; rfl
    · have hlt2 : L[i].1.n.toNat < ps.length := by simp only [Int.ofNat_eq_natCast] at h3; omega
      rw [decide_eq_false h3, cond_false, List.getElem?_eq_getElem hlt2, elem_N hlt, elem_P hz hlt2]
      by_cases h1 : 0 ≤ ps[L[i].1.n.toNat]
      · rw [decide_eq_false (show ¬ ps[L[i].1.n.toNat] < 0 by omega), cond_false, elem_N hlt, elem_P hz hlt2]
        by_cases h2 : ps[L[i].1.n.toNat] < 32
        · rw [decide_eq_false (show ¬ (32 : Int) ≤ ps[L[i].1.n.toNat] by omega), cond_false]
          simp only [decide_eq_true h1, decide_eq_true h2, Bool.and_self, cond_true, Option.isSome_some, Bool.true_and]
          exact ih (i + 1) n (by omega) (by omega)
        · rw [decide_eq_true (show (32 : Int) ≤ ps[L[i].1.n.toNat] by omega), cond_true]
          simp only [decide_eq_false h2, Bool.and_false, cond_false]
          rfl
      · rw [decide_eq_true (show ps[L[i].1.n.toNat] < 0 by omega), cond_true]
        simp only [decide_eq_false h1, Bool.false_and, cond_false]
        rfl
theorem ok_cn {h : Hd} {ks : Fo} (ho : okE h ks = true) : (Fo.cons h ks .nil).all cn = true := by
  have hw := ok_wf ho
  simp only [Fo.all, may_cn hw.1, wf_cn ks hw.2, Bool.and_self]
theorem colsE_all (pl : Hd → Option Int) (h : Hd) (ks : Fo) : ((colsE h ks).all fun x => (pl x.1).isSome) = (okH pl h && okL pl ks) := by
  unfold colsE
  rw [cols_all]
  simp only [okL, Bool.and_true]
theorem colsE_len (h : Hd) (ks : Fo) : (colsE h ks).length ≤ 1 + ks.size := by
  unfold colsE colsL
  refine Nat.le_trans (List.length_filter_le _ _) ?_
  rw [preH_len]
  simp only [Fo.size]
  omega
theorem ref_Move_eq {h : Hd} {ks : Fo} (hs : Small h ks) (ps : List Int) (γ : Type) (K : KBd γ) :
    Sp.ref14_Move h.k h.n h.vk h.vn (mk h.vs) (mk h.tab) (mk h.col) ks.enc (ps.map iEnc) γ K = putR (plM ps) h ks K := by
  unfold Sp.ref14_Move Sp.B_ref14_Move putR
  rw [ref_Check_eq hs]
  have h1 := hs.size
  have h2 := hs.deep
  cases ho : okE h ks with
  | false => rfl
  | true =>
    rw [Bool.not_true, cond_false, cond_true, Kinds_eq hs, cols_enc]
    have hc := ok_cn ho
    have hlen := colsE_len h ks
    refine (mv_loop ps (colsE h ks) (by omega) (cols_cn hc) _ _ _ _ _ _ _ _ (fun z16 z17 z18 z19 z20 z21 z22 z23 => Sp.ref14_move fuel z16 z17 z18 z19 z20 z21 z22 z23 (ps.map iEnc) γ fun z32 z33 z34 z35 z36 z37 z38 z39 => K z32 z33 z34 z35 z36 z37 z38 z39 0) K (colsE h ks).length 0 fuel (by omega) (by unfold fuel; omega)).trans ?_
    rw [List.drop_zero, colsE_all]
    cases hok : (okH (plM ps) h && okL (plM ps) ks) with
    | false => rfl
    | true =>
      rw [Bool.and_eq_true] at hok
      simp only [Fo.all, Bool.and_eq_true] at hc
      exact rm_E (rm_L ps ks) h fuel hc.1.1 hc.1.2 hok.1 hok.2 (by unfold fuel; omega) (by omega) γ _
end Go.Proofs.YtppilomaljgkoaaGreatDoor

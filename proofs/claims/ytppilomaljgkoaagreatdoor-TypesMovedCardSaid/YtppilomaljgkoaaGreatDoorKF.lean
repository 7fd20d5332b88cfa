/- The type of an expression: the program's is the reference's. -/
import Derived.Test.YtppilomaljgkoaaGreatDoorKI
set_option linter.unusedVariables false
set_option linter.unusedSimpArgs false
namespace Go.Proofs.YtppilomaljgkoaaGreatDoor
open Go Go.Aev Go.RowKit Go.Sort
def kdH (cs : List Co) (h : Hd) (l : List Int × Int) : Int × Int :=
  if h.k = 1 then (h.vk, 0) else if h.k = 2 then (match cs[h.n.toNat]? with
    | some c => (c.ty, 0)
    | none => (0, 140)) else if l.2 = 0 then ofT h.k h.n l.1 else (0, l.2)
def kdL (cs : List Co) : Fo → List Int × Int
  | .nil => ([], 0)
  | .cons h ks r => if (kdH cs h (kdL cs ks)).2 = 0 then ((kdH cs h (kdL cs ks)).1 :: (kdL cs r).1, (kdL cs r).2) else ([], (kdH cs h (kdL cs ks)).2)
theorem kdL_len (cs : List Co) : ∀ F : Fo, (kdL cs F).2 = 0 → (kdL cs F).1.length = F.len
  | .nil, _ => rfl
  | .cons h ks r, hz => by
    rw [kdL] at hz ⊢
    by_cases h0 : (kdH cs h (kdL cs ks)).2 = 0
    · rw [if_pos h0] at hz ⊢
      show (_ :: _ : List Int).length = _
      rw [List.length_cons, kdL_len cs r hz]; rfl
    · rw [if_neg h0] at hz
      exact absurd hz h0
theorem elem_Ct {β : Type} {cs : List Co} {i : Nat} (hlt : i < cs.length) (G : Int → Option β) :
    (elemAt (cs.map encC) (i : Int) fun z => bif List.length z == 3 then cellAt (List.drop 2 z) 0 fun z3 => Aev.asInt IntKind.i64 z3 fun c => G c else none) = G cs[i].ty := by
  have he : (cs.map encC)[i]? = some (encC cs[i]) := by rw [List.getElem?_map, List.getElem?_eq_getElem hlt]; rfl
  rw [elemAt_some he]
  rfl
theorem fits_of {h : Hd} {l : List Int} (hm : may h l.length = true) (h1 : h.k ≠ 1) (h2 : h.k ≠ 2) : Fits h.k h.n l := by
  rcases may_kind hm with hk | hk | hk | hk
  · exact absurd hk h1
  · exact absurd hk h2
  · rcases may_op hk hm with ⟨hl, hn⟩ | ⟨hl, hn⟩
    · exact .inr (.inr (.inl ⟨hk, by omega, by omega⟩))
    · refine .inr (.inr (.inr ⟨hk, ?_⟩))
      match l, hl with
      | [a, b], _ => exact ⟨a, b, rfl⟩
  · rcases may_agg hk hm with ⟨hl, hn⟩ | ⟨hl, hn⟩
    · exact .inl ⟨hk, hn, by simpa using hl⟩
    · refine .inr (.inl ⟨hk, by omega, ?_⟩)
      match l, hl with
      | [a], _ => exact ⟨a, rfl⟩
def KKd {γ : Type} (K : Int → Dat → Option γ) : Ex → Int → Dat → List (List Dat) → Int → Int → Int → Int → Int → ByteArray → ByteArray → ByteArray → List (List Dat) → Option γ :=
  fun z14 z15 z16 z17 z18 z19 z20 z21 z22 z23 z24 z25 z26 => bif isIfc z16 then bif sized z17 1 then bif Ex.isExit z14 1 then bif decide (z19 = 4) then Sp.types_agg z20 z17 γ fun (z27 : Int) (z28 : Bool) => bif !z28 then K 0 (Dat.ifp 79 [.int .i64 141]) else K z27 Dat.nilI else Sp.types_op z20 z17 γ fun (z29 : Int) (z30 : Bool) => bif !z30 then K 0 (Dat.ifp 79 [.int .i64 141]) else K z29 Dat.nilI else bif Ex.isRet z14 then K z15 z16 else none else none else none
def KdE (cs : List Co) (f : Nat) (h : Hd) (ks : Fo) : Prop := ∀ (γ : Type) (K : Int → Dat → Option γ),
  Sp.types_kind f h.k h.n h.vk h.vn (mk h.vs) (mk h.tab) (mk h.col) ks.enc (cs.map encC) γ K = K (kdH cs h (kdL cs ks)).1 (err (kdH cs h (kdL cs ks)).2)
def KdL (cs : List Co) (F : Fo) : Prop := ∀ (T : Fo) (i f q : Nat) (out : List Int) (b0 b1 b2 b3 : Int) (b4 b5 b6 : ByteArray) (b7 : List (List Dat)) (γ : Type) (K : Int → Dat → Option γ),
  T.enc.drop i = F.enc → wfL F = true → i + F.len ≤ 100000 → out.length + F.len ≤ 100000 → F.size ≤ 100000 → F.len < q → F.deep < f →
  Sp.types_kind_L1 (Sp.types_kind f) q (cs.map encC) T.enc (Int.ofNat T.enc.length) 0 Dat.nilI (out.map iEnc) (i : Int) b0 b1 b2 b3 b4 b5 b6 b7 γ (KKd K) =
    if (kdL cs F).2 = 0 then KKd K (.exit 1) 0 Dat.nilI ((out ++ (kdL cs F).1).map iEnc) 0 b0 b1 b2 b3 b4 b5 b6 b7 else K 0 (err (kdL cs F).2)
theorem kd_E {cs : List Co} {ks : Fo} (ih : KdL cs ks) (h : Hd) (f : Nat) (hm : may h ks.len = true) (hw : wfL ks = true) (hf : ks.deep + 1 < f) (hl : ks.size ≤ 100000) : KdE cs f h ks := by
  intro γ K
  obtain ⟨f, rfl⟩ : ∃ g, f = g + 1 := ⟨f - 1, by omega⟩
  have hlen := Fo.len_size ks
  rw [Sp.types_kind]
  unfold Sp.B_types_kind kdH
  by_cases h1 : h.k = 1
  · rw [decide_eq_true h1, if_pos h1]; rfl
  rw [decide_eq_false h1, if_neg h1, cond_false]
  by_cases h2 : h.k = 2
  · rw [decide_eq_true h2, if_pos h2, cond_true, List.length_map]
    have hc := may_cn hm
    unfold cn at hc
    rw [decide_eq_true h2] at hc
    simp only [Bool.not_true, Bool.false_or, decide_eq_true_eq] at hc
    by_cases h3 : Int.ofNat cs.length ≤ h.n
    · rw [decide_eq_true h3, List.getElem?_eq_none (by simp only [Int.ofNat_eq_natCast] at h3; omega)]; rfl
    · have hlt : h.n.toNat < cs.length := by simp only [Int.ofNat_eq_natCast] at h3; omega
      have he := elem_Ct hlt (fun (z13 : Int) => K z13 Dat.nilI)
      rw [Int.toNat_of_nonneg hc] at he
      rw [decide_eq_false h3, List.getElem?_eq_getElem hlt, cond_false]
      exact he
  rw [decide_eq_false h2, if_neg h2, cond_false]
  refine (ih ks 0 f fuel [] h.k h.n h.vk h.vn (mk h.vs) (mk h.tab) (mk h.col) ks.enc γ K rfl hw (by omega) (by simp; omega) hl (by unfold fuel; omega) (by omega)).trans ?_
  by_cases hz : (kdL cs ks).2 = 0
  · rw [if_pos hz, if_pos hz, List.nil_append]
    have hll := kdL_len cs ks hz
    have hmm : may h (kdL cs ks).1.length = true := by rw [hll]; exact hm
    have hF := fits_of hmm h1 h2
    unfold KKd
    rw [sized_I]
    show (bif decide (h.k = 4) then _ else _) = _
    rcases may_kind hm with hk | hk | hk | hk
    · exact absurd hk h1
    · exact absurd hk h2
    · rw [hk] at hF ⊢
      refine op_fin hF ?_ γ K
      rcases hF with ⟨h, _⟩ | ⟨h, _⟩ | ⟨_, _, h⟩ | ⟨_, a, b, h⟩
      · omega
      · omega
      · omega
      · rw [h]; simp
    · rw [hk] at hF ⊢
      exact agg_fin hF γ K
  · rw [if_neg hz, if_neg hz]
theorem kd_L (cs : List Co) : ∀ F : Fo, KdL cs F
  | .nil => by
    intro T i f q out b0 b1 b2 b3 b4 b5 b6 b7 γ K hd hw hi hout hsz hq hf
    obtain ⟨q, rfl⟩ : ∃ g, q = g + 1 := ⟨q - 1, by omega⟩
    rw [Sp.types_kind_L1]
    unfold Sp.B_types_kind_L1
    have hl := drop_nil hd
    rw [sized_I, decide_eq_false (show ¬ (i : Int) < Int.ofNat T.enc.length by simp only [Int.ofNat_eq_natCast]; omega)]
    simp only [kdL, List.append_nil, if_true]
    rfl
  | .cons h ks r => by
    intro T i f q out b0 b1 b2 b3 b4 b5 b6 b7 γ K hd hw hi hout hsz hq hf
    simp only [Fo.len, Fo.deep, Fo.size] at hi hout hsz hq hf
    simp only [wfL, Bool.and_eq_true] at hw
    obtain ⟨q, rfl⟩ : ∃ g, q = g + 1 := ⟨q - 1, by omega⟩
    rw [Sp.types_kind_L1]
    unfold Sp.B_types_kind_L1
    obtain ⟨hlt, _, hn⟩ := drop_enc hd
    rw [sized_I, show isIfc Dat.nilI = true from rfl, cond_true, cond_true, decide_eq_true (show (i : Int) < Int.ofNat T.enc.length by simp only [Int.ofNat_eq_natCast]; omega), cond_true, elem_enc hd, kd_E (kd_L cs ks) h f hw.1 hw.2.1 (by omega) (by omega), nextI (by omega), err_ifc, err_nil, cond_true, cond_true]
    rw [kdL]
    by_cases h0 : (kdH cs h (kdL cs ks)).2 = 0
    · rw [decide_eq_true h0, if_pos h0]
      simp only [Bool.not_true, cond_false, List.length_map]
      rw [decide_eq_true (show (out.length + 1) * 9 ≤ 70368744177664 by omega)]
      simp only [Bool.and_self, cond_true]
      rw [map_snoc]
      refine (kd_L cs r T (i + 1) f q _ b0 b1 b2 b3 b4 b5 b6 b7 γ K hn hw.2.2 (by omega) (by rw [List.length_append, List.length_singleton]; omega) (by omega) (by omega) (by omega)).trans ?_
      rw [List.append_assoc]
      rfl
    · rw [decide_eq_false h0, if_neg h0]
      simp only [Bool.not_false, cond_true]
      rw [if_neg h0]
      unfold KKd
      rw [err_ifc, sized_I]
      rfl
def tyR {γ : Type} (cs : List Co) (h : Hd) (ks : Fo) (K : Int → Int → Option γ) : Option γ := cond (okE h ks) (K (kdH cs h (kdL cs ks)).1 (kdH cs h (kdL cs ks)).2) (K 0 100)
theorem Type_eq {h : Hd} {ks : Fo} (hs : Small h ks) (cs : List Co) (γ : Type) (K : Int → Int → Option γ) :
    Sp.types_Type h.k h.n h.vk h.vn (mk h.vs) (mk h.tab) (mk h.col) ks.enc (cs.map encC) γ K = tyR cs h ks K := by
  unfold Sp.types_Type Sp.B_types_Type tyR
  rw [Check_eq hs]
  have h1 := hs.size
  have h2 := hs.deep
  cases ho : okE h ks with
  | false => rfl
  | true =>
    have hw := ok_wf ho
    refine (kd_E (kd_L cs ks) h fuel hw.1 hw.2 (by unfold fuel; omega) (by omega) γ _).trans ?_
    rw [err_ifc, cond_true, number_err]
    rfl
def KRd {γ : Type} (K : Int → Int → Option γ) : Ex → Int → Int → List (List Dat) → Int → Int → Int → Int → Int → ByteArray → ByteArray → ByteArray → List (List Dat) → Option γ :=
  fun z14 z15 z16 z17 z18 z19 z20 z21 z22 z23 z24 z25 z26 => bif sized z17 1 then bif Ex.isExit z14 1 then Sp.ref14_of z19 z20 z21 z22 z23 z24 z25 z26 z17 γ fun (z27 : Int) (z28 : Bool) => bif !z28 then K 0 141 else K z27 0 else bif Ex.isRet z14 then K z15 z16 else none else none
def RdE (cs : List Co) (f : Nat) (h : Hd) (ks : Fo) : Prop := ∀ (γ : Type) (K : Int → Int → Option γ),
  Sp.ref14_kind f h.k h.n h.vk h.vn (mk h.vs) (mk h.tab) (mk h.col) ks.enc (cs.map encC) γ K = K (kdH cs h (kdL cs ks)).1 (kdH cs h (kdL cs ks)).2
def RdL (cs : List Co) (F : Fo) : Prop := ∀ (T : Fo) (i f q : Nat) (out : List Int) (b0 b1 b2 b3 : Int) (b4 b5 b6 : ByteArray) (γ : Type) (K : Int → Int → Option γ),
  T.enc.drop i = F.enc → wfL F = true → i + F.len ≤ 100000 → out.length + F.len ≤ 100000 → F.size ≤ 100000 → F.len < q → F.deep < f →
  Sp.ref14_kind_L1 (Sp.ref14_kind f) q (cs.map encC) 0 0 (out.map iEnc) (i : Int) b0 b1 b2 b3 b4 b5 b6 T.enc γ (KRd K) =
    if (kdL cs F).2 = 0 then KRd K (.exit 1) 0 0 ((out ++ (kdL cs F).1).map iEnc) 0 b0 b1 b2 b3 b4 b5 b6 T.enc else K 0 (kdL cs F).2
theorem rd_E {cs : List Co} {ks : Fo} (ih : RdL cs ks) (h : Hd) (f : Nat) (hm : may h ks.len = true) (hw : wfL ks = true) (hf : ks.deep + 1 < f) (hl : ks.size ≤ 100000) : RdE cs f h ks := by
  intro γ K
  obtain ⟨f, rfl⟩ : ∃ g, f = g + 1 := ⟨f - 1, by omega⟩
  have hlen := Fo.len_size ks
  rw [Sp.ref14_kind]
  unfold Sp.B_ref14_kind kdH
  by_cases h1 : h.k = 1
  · rw [decide_eq_true h1, if_pos h1]; rfl
  rw [decide_eq_false h1, if_neg h1, cond_false]
  by_cases h2 : h.k = 2
  · rw [decide_eq_true h2, if_pos h2, cond_true, List.length_map]
    have hc := may_cn hm
    unfold cn at hc
    rw [decide_eq_true h2] at hc
    simp only [Bool.not_true, Bool.false_or, decide_eq_true_eq] at hc
    by_cases h3 : Int.ofNat cs.length ≤ h.n
    · rw [decide_eq_true h3, List.getElem?_eq_none (by simp only [Int.ofNat_eq_natCast] at h3; omega)]; rfl
    · have hlt : h.n.toNat < cs.length := by simp only [Int.ofNat_eq_natCast] at h3; omega
      have he := elem_Ct hlt (fun (z13 : Int) => K z13 0)
      rw [Int.toNat_of_nonneg hc] at he
      rw [decide_eq_false h3, List.getElem?_eq_getElem hlt, cond_false]
      exact he
  rw [decide_eq_false h2, if_neg h2, cond_false]
  refine (ih ks 0 f fuel [] h.k h.n h.vk h.vn (mk h.vs) (mk h.tab) (mk h.col) γ K rfl hw (by omega) (by simp; omega) hl (by unfold fuel; omega) (by omega)).trans ?_
  by_cases hz : (kdL cs ks).2 = 0
  · rw [if_pos hz, if_pos hz, List.nil_append]
    have hll := kdL_len cs ks hz
    have hmm : may h (kdL cs ks).1.length = true := by rw [hll]; exact hm
    have hF := fits_of hmm h1 h2
    unfold KRd
    rw [sized_I]
    refine of_fin (ks := ks) hF ?_ γ K
    rcases hF with ⟨_, _, h⟩ | ⟨_, _, a, h⟩ | ⟨_, _, h⟩ | ⟨_, a, b, h⟩
    · rw [h]; simp
    · rw [h]; simp
    · omega
    · rw [h]; simp
  · rw [if_neg hz, if_neg hz]
theorem rd_L (cs : List Co) : ∀ F : Fo, RdL cs F
  | .nil => by
    intro T i f q out b0 b1 b2 b3 b4 b5 b6 γ K hd hw hi hout hsz hq hf
    obtain ⟨q, rfl⟩ : ∃ g, q = g + 1 := ⟨q - 1, by omega⟩
    rw [Sp.ref14_kind_L1]
    unfold Sp.B_ref14_kind_L1
    have hl := drop_nil hd
    rw [sized_I, decide_eq_false (show ¬ (i : Int) < Int.ofNat T.enc.length by simp only [Int.ofNat_eq_natCast]; omega)]
    simp only [kdL, List.append_nil, if_true]
    rfl
  | .cons h ks r => by
    intro T i f q out b0 b1 b2 b3 b4 b5 b6 γ K hd hw hi hout hsz hq hf
    simp only [Fo.len, Fo.deep, Fo.size] at hi hout hsz hq hf
    simp only [wfL, Bool.and_eq_true] at hw
    obtain ⟨q, rfl⟩ : ∃ g, q = g + 1 := ⟨q - 1, by omega⟩
    rw [Sp.ref14_kind_L1]
    unfold Sp.B_ref14_kind_L1
    obtain ⟨hlt, _, hn⟩ := drop_enc hd
    rw [sized_I, cond_true, decide_eq_true (show (i : Int) < Int.ofNat T.enc.length by simp only [Int.ofNat_eq_natCast]; omega), cond_true, elem_enc hd, rd_E (rd_L cs ks) h f hw.1 hw.2.1 (by omega) (by omega), nextI (by omega)]
    rw [kdL]
    by_cases h0 : (kdH cs h (kdL cs ks)).2 = 0
    · rw [decide_eq_true h0, if_pos h0]
      simp only [Bool.not_true, cond_false, List.length_map]
      rw [decide_eq_true (show (out.length + 1) * 9 ≤ 70368744177664 by omega)]
      simp only [Bool.and_self, cond_true]
      rw [map_snoc]
      refine (rd_L cs r T (i + 1) f q _ b0 b1 b2 b3 b4 b5 b6 γ K hn hw.2.2 (by omega) (by rw [List.length_append, List.length_singleton]; omega) (by omega) (by omega) (by omega)).trans ?_
      rw [List.append_assoc]
      rfl
    · rw [decide_eq_false h0, if_neg h0]
      simp only [Bool.not_false, cond_true]
      rw [if_neg h0]
      unfold KRd
      rw [sized_I]
      rfl
theorem ref_Type_eq {h : Hd} {ks : Fo} (hs : Small h ks) (cs : List Co) (γ : Type) (K : Int → Int → Option γ) :
    Sp.ref14_Type h.k h.n h.vk h.vn (mk h.vs) (mk h.tab) (mk h.col) ks.enc (cs.map encC) γ K = tyR cs h ks K := by
  unfold Sp.ref14_Type Sp.B_ref14_Type tyR
  rw [ref_Check_eq hs]
  have h1 := hs.size
  have h2 := hs.deep
  cases ho : okE h ks with
  | false => rfl
  | true =>
    have hw := ok_wf ho
    exact rd_E (rd_L cs ks) h fuel hw.1 hw.2 (by unfold fuel; omega) (by omega) γ _
end Go.Proofs.YtppilomaljgkoaaGreatDoor

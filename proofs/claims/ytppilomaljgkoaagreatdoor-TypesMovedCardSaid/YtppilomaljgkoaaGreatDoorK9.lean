/- Other places for an expression's columns. -/
import Derived.Test.YtppilomaljgkoaaGreatDoorK8
set_option linter.unusedVariables false
set_option linter.unusedSimpArgs false
namespace Go.Proofs.YtppilomaljgkoaaGreatDoor
open Go Go.Aev Go.RowKit Go.Sort
def okH (pl : Hd → Option Int) (h : Hd) : Bool := !decide (h.k = 2) || (pl h).isSome
def bdH (pl : Hd → Option Int) (h : Hd) : Hd := cond (decide (h.k = 2)) { h with n := (pl h).getD 0 } h
def okL (pl : Hd → Option Int) : Fo → Bool
  | .nil => true
  | .cons h ks r => okH pl h && (okL pl ks && okL pl r)
def bdL (pl : Hd → Option Int) : Fo → Fo
  | .nil => .nil
  | .cons h ks r => .cons (bdH pl h) (bdL pl ks) (bdL pl r)
theorem bdL_len (pl : Hd → Option Int) : ∀ F, (bdL pl F).len = F.len
  | .nil => rfl
  | .cons h ks r => by simp only [bdL, Fo.len, bdL_len pl r]
theorem bdL_size (pl : Hd → Option Int) : ∀ F, (bdL pl F).size = F.size
  | .nil => rfl
  | .cons h ks r => by simp only [bdL, Fo.size, bdL_size pl ks, bdL_size pl r]
theorem bdL_deep (pl : Hd → Option Int) : ∀ F, (bdL pl F).deep = F.deep
  | .nil => rfl
  | .cons h ks r => by simp only [bdL, Fo.deep, bdL_deep pl ks, bdL_deep pl r]
theorem bdH_k (pl : Hd → Option Int) (h : Hd) : (bdH pl h).k = h.k := by unfold bdH; cases decide (h.k = 2) <;> rfl
def cn (h : Hd) : Bool := !decide (h.k = 2) || decide (0 ≤ h.n)
def EachG (X : Ty_types_Bind_1) : Nat → Ty_types_each
  | 0 => fun _ _ _ _ _ _ _ _ _ _ _ => none
  | n + 1 => Sp.B_types_each X (Sp.types_each_L0 (EachG X n) fuel)
theorem each_B : ∀ n, Sp.types_each n = EachG Sp.types_Bind_1 n
  | 0 => rfl
  | n + 1 => by rw [Sp.types_each, EachG, each_B n]
theorem L0_q (R : Ty_types_each) : ∀ n, Sp.types_each_L0'1 R n = Sp.types_each_L0 R n
  | 0 => rfl
  | n + 1 => by rw [Sp.types_each_L0'1, Sp.types_each_L0, L0_q R n]; rfl
theorem each_M : ∀ n, Sp.types_each'1 n = EachG Sp.types_Move_1 n
  | 0 => rfl
  | n + 1 => by rw [Sp.types_each'1, EachG, each_M n, L0_q]; rfl
abbrev KEx (γ : Type) := Int → Int → Int → Int → ByteArray → ByteArray → ByteArray → List (List Dat) → Dat → List (List Dat) → Option γ
def bad {γ : Type} (K : KEx γ) (b : List (List Dat)) : Option γ := K 0 0 0 0 (bs []) (bs []) (bs []) [] (Dat.ifp 79 [.int .i64 140]) b
def good {γ : Type} (K : KEx γ) (h : Hd) (ks : Fo) (b : List (List Dat)) : Option γ := K h.k h.n h.vk h.vn (mk h.vs) (mk h.tab) (mk h.col) ks.enc Dat.nilI b
def KEa {γ : Type} (K : KEx γ) : Ex → Dat → Int → Int → Int → Int → Int → ByteArray → ByteArray → ByteArray → List (List Dat) → Int → Int → Int → Int → ByteArray → ByteArray → ByteArray → List (List Dat) → List (List Dat) → Option γ :=
  fun z14 z15 z16 z17 z18 z19 z20 z21 z22 z23 z24 z25 z26 z27 z28 z29 z30 z31 z32 z33 => bif isIfc z15 then bif Ex.isExit z14 0 then K z17 z18 z19 z20 z21 z22 z23 z24 Dat.nilI z33 else bif Ex.isRet z14 then K z25 z26 z27 z28 z29 z30 z31 z32 z15 z33 else none else none
def PlOk (X : Ty_types_Bind_1) (b : List (List Dat)) (pl : Hd → Option Int) : Prop := ∀ (h : Hd) (ks : Fo), h.k = 2 → 0 ≤ h.n → ∀ (γ : Type) (K : Int → Int → List (List Dat) → Option γ),
  X h.k h.n h.vk h.vn (mk h.vs) (mk h.tab) (mk h.col) ks.enc b γ K = match pl h with
    | some n => K n 0 b
    | none => K 0 140 b
def EachE (X : Ty_types_Bind_1) (b : List (List Dat)) (pl : Hd → Option Int) (f : Nat) (h : Hd) (ks : Fo) : Prop := ∀ (γ : Type) (K : KEx γ),
  EachG X f h.k h.n h.vk h.vn (mk h.vs) (mk h.tab) (mk h.col) ks.enc b γ K = cond (okH pl h && okL pl ks) (good K (bdH pl h) (bdL pl ks) b) (bad K b)
def EachL (X : Ty_types_Bind_1) (b : List (List Dat)) (pl : Hd → Option Int) (F : Fo) : Prop := ∀ (T : Fo) (i f q : Nat) (b0 b1 b2 b3 : Int) (b4 b5 b6 : ByteArray) (out : List (List Dat)) (γ : Type) (K : KEx γ),
  T.enc.drop i = F.enc → F.all cn = true → sized out 8 = true → i + F.len ≤ 100000 → out.length + F.len ≤ 100000 → F.size ≤ 100000 → F.len < q → F.deep < f →
  Sp.types_each_L0 (EachG X f) q T.enc (Int.ofNat T.enc.length) Dat.nilI (i : Int) b0 b1 b2 b3 b4 b5 b6 out 0 0 0 0 (bs []) (bs []) (bs []) [] b γ (KEa K) = cond (okL pl F) (K b0 b1 b2 b3 b4 b5 b6 (out ++ (bdL pl F).enc) Dat.nilI b) (bad K b)
theorem each_E {X : Ty_types_Bind_1} {b : List (List Dat)} {pl : Hd → Option Int} (hX : PlOk X b pl) {ks : Fo} (ih : EachL X b pl ks) (h : Hd) (f : Nat) (hc : cn h = true) (hcs : ks.all cn = true) (hf : ks.deep + 1 < f) (hl : ks.size ≤ 100000) : EachE X b pl f h ks := by
  intro γ K
  obtain ⟨f, rfl⟩ : ∃ g, f = g + 1 := ⟨f - 1, by omega⟩
  have hlen := Fo.len_size ks
  rw [EachG]
  unfold Sp.B_types_each okH bdH
  by_cases hk : h.k = 2
  · unfold cn at hc
    rw [decide_eq_true hk] at hc
    simp only [Bool.not_true, Bool.false_or, decide_eq_true_eq] at hc
    rw [decide_eq_true hk, cond_true, hX h ks hk hc]
    cases hp : pl h with
    | none => rfl
    | some n =>
      refine (ih ks 0 f fuel h.k n h.vk h.vn (mk h.vs) (mk h.tab) (mk h.col) [] γ K rfl hcs rfl (by omega) (by simp; omega) hl (by unfold fuel; omega) (by omega)).trans ?_
      rfl
  · rw [decide_eq_false hk]
    refine (ih ks 0 f fuel h.k h.n h.vk h.vn (mk h.vs) (mk h.tab) (mk h.col) [] γ K rfl hcs rfl (by omega) (by simp; omega) hl (by unfold fuel; omega) (by omega)).trans ?_
    rfl
theorem each_L {X : Ty_types_Bind_1} {b : List (List Dat)} {pl : Hd → Option Int} (hX : PlOk X b pl) : ∀ F : Fo, EachL X b pl F
  | .nil => by
    intro T i f q b0 b1 b2 b3 b4 b5 b6 out γ K hd hc ho hi hout hsz hq hf
    obtain ⟨q, rfl⟩ : ∃ g, q = g + 1 := ⟨q - 1, by omega⟩
    rw [Sp.types_each_L0]
    unfold Sp.B_types_each_L0
    have hl := drop_nil hd
    rw [decide_eq_false (show ¬ (i : Int) < Int.ofNat T.enc.length by simp only [Int.ofNat_eq_natCast]; omega), cond_false]
    simp only [bdL, Fo.enc, List.append_nil, okL, cond_true]
    rfl
  | .cons h ks r => by
    intro T i f q b0 b1 b2 b3 b4 b5 b6 out γ K hd hc ho hi hout hsz hq hf
    simp only [Fo.len, Fo.deep, Fo.size] at hi hout hsz hq hf
    simp only [Fo.all, Bool.and_eq_true] at hc
    obtain ⟨q, rfl⟩ : ∃ g, q = g + 1 := ⟨q - 1, by omega⟩
    rw [Sp.types_each_L0]
    unfold Sp.B_types_each_L0
    obtain ⟨hlt, _, hn⟩ := drop_enc hd
    rw [decide_eq_true (show (i : Int) < Int.ofNat T.enc.length by simp only [Int.ofNat_eq_natCast]; omega), cond_true, elem_enc hd, each_E hX (each_L hX ks) h f hc.1.1 hc.1.2 (by omega) (by omega), nextI (by omega)]
    rw [show okL pl (.cons h ks r) = (okH pl h && okL pl ks && okL pl r) by simp only [okL, Bool.and_assoc]]
    cases hok : (okH pl h && okL pl ks) with
    | false => rfl
    | true =>
      show (bif sized out 8 && true && true && decide ((List.length out + 1) * 105 ≤ 70368744177664) && true then _ else _) = _
      rw [ho, decide_eq_true (show (out.length + 1) * 105 ≤ 70368744177664 by omega)]
      simp only [Bool.and_self, cond_true, Bool.true_and]
      refine (each_L hX r T (i + 1) f q b0 b1 b2 b3 b4 b5 b6 (out ++ [encE (bdH pl h) (bdL pl ks)]) γ K hn hc.2 (sized_append ho rfl) (by omega) (by rw [List.length_append, List.length_singleton]; omega) (by omega) (by omega) (by omega)).trans ?_
      rw [List.append_assoc]
      rfl
theorem may_cn {h : Hd} {m : Nat} (hm : may h m = true) : cn h = true := by
  unfold cn
  by_cases hk : h.k = 2
  · unfold may at hm
    rw [if_neg (by omega), if_pos hk] at hm
    simp only [Bool.and_eq_true, decide_eq_true_eq] at hm
    rw [decide_eq_true (show (0 : Int) ≤ h.n by omega), Bool.or_true]
  · rw [decide_eq_false hk]; rfl
theorem wf_cn : ∀ F : Fo, wfL F = true → F.all cn = true
  | .nil, _ => rfl
  | .cons h ks r, hw => by
    simp only [wfL, Bool.and_eq_true] at hw
    simp only [Fo.all, may_cn hw.1, wf_cn ks hw.2.1, wf_cn r hw.2.2, Bool.and_self]
theorem ok_wf {h : Hd} {ks : Fo} (ho : okE h ks = true) : may h ks.len = true ∧ wfL ks = true := by
  unfold okE at ho
  rw [Bool.and_eq_true] at ho
  have := wf_good _ _ _ ho.1
  simp only [wfL, Bool.and_eq_true] at this
  exact ⟨this.1, this.2.1⟩
theorem each_one {X : Ty_types_Bind_1} {b : List (List Dat)} {pl : Hd → Option Int} (hX : PlOk X b pl) {h : Hd} {ks : Fo} (hs : Small h ks) (ho : okE h ks = true) (γ : Type) (K : KEx γ) :
    EachG X fuel h.k h.n h.vk h.vn (mk h.vs) (mk h.tab) (mk h.col) ks.enc b γ K = cond (okH pl h && okL pl ks) (good K (bdH pl h) (bdL pl ks) b) (bad K b) := by
  have hw := ok_wf ho
  have h1 := hs.size
  have h2 := hs.deep
  exact each_E hX (each_L hX ks) h fuel (may_cn hw.1) (wf_cn ks hw.2) (by unfold fuel; omega) (by omega) γ K
abbrev KBd (γ : Type) := Int → Int → Int → Int → ByteArray → ByteArray → ByteArray → List (List Dat) → Int → Option γ
def putR {γ : Type} (pl : Hd → Option Int) (h : Hd) (ks : Fo) (K : KBd γ) : Option γ :=
  cond (okE h ks) (cond (okH pl h && okL pl ks) (K (bdH pl h).k (bdH pl h).n (bdH pl h).vk (bdH pl h).vn (mk (bdH pl h).vs) (mk (bdH pl h).tab) (mk (bdH pl h).col) (bdL pl ks).enc 0) (K 0 0 0 0 (bs []) (bs []) (bs []) [] 140)) (K 0 0 0 0 (bs []) (bs []) (bs []) [] 100)
def plB (cs : List Co) (h : Hd) : Option Int := fnd cs h.tab h.col
theorem plB_ok (cs : List Co) (hl : cs.length ≤ 100000) : PlOk Sp.types_Bind_1 (cs.map encC) (plB cs) := by
  intro h ks _ _ γ K
  unfold Sp.types_Bind_1 Sp.B_types_Bind_1 plB
  rw [Find_eq cs h.tab h.col hl]
  cases fnd cs h.tab h.col <;> rfl
theorem Bind_eq {h : Hd} {ks : Fo} (hs : Small h ks) (cs : List Co) (hl : cs.length ≤ 100000) (γ : Type) (K : KBd γ) :
    Sp.types_Bind h.k h.n h.vk h.vn (mk h.vs) (mk h.tab) (mk h.col) ks.enc (cs.map encC) γ K = putR (plB cs) h ks K := by
  unfold Sp.types_Bind Sp.B_types_Bind Sp.types_placed Sp.B_types_placed putR
  rw [Check_eq hs, each_B]
  cases ho : okE h ks with
  | false => rfl
  | true =>
    refine (each_one (plB_ok cs hl) hs ho γ _).trans ?_
    cases (okH (plB cs) h && okL (plB cs) ks) <;> rfl
def KRb {γ : Type} (K : Int → Int → Int → Int → ByteArray → ByteArray → ByteArray → List (List Dat) → Bool → Option γ) : Ex → Bool → List (List Dat) → Int → Int → Int → Int → Int → ByteArray → ByteArray → ByteArray → List (List Dat) → Int → Int → Int → Int → ByteArray → ByteArray → ByteArray → List (List Dat) → Option γ :=
  fun z33 z34 z35 z36 z37 z38 z39 z40 z41 z42 z43 z44 _ _ _ _ _ _ _ _ => bif sized z35 8 then bif Ex.isExit z33 0 then K z37 z38 z39 z40 z41 z42 z43 z35 z34 else bif Ex.isRet z33 then none else none else none
def RbE (cs : List Co) (f : Nat) (h : Hd) (ks : Fo) : Prop := ∀ (γ : Type) (K : Int → Int → Int → Int → ByteArray → ByteArray → ByteArray → List (List Dat) → Bool → Option γ),
  Sp.ref14_bind f h.k h.n h.vk h.vn (mk h.vs) (mk h.tab) (mk h.col) ks.enc (cs.map encC) γ K = K (bdH (plB cs) h).k (bdH (plB cs) h).n (bdH (plB cs) h).vk (bdH (plB cs) h).vn (mk (bdH (plB cs) h).vs) (mk (bdH (plB cs) h).tab) (mk (bdH (plB cs) h).col) (bdL (plB cs) ks).enc (okH (plB cs) h && okL (plB cs) ks)
def RbL (cs : List Co) (F : Fo) : Prop := ∀ (T : Fo) (i f q : Nat) (ok : Bool) (out : List (List Dat)) (b0 b1 b2 b3 : Int) (b4 b5 b6 : ByteArray) (γ : Type) (K : Int → Int → Int → Int → ByteArray → ByteArray → ByteArray → List (List Dat) → Bool → Option γ),
  T.enc.drop i = F.enc → sized out 8 = true → i + F.len ≤ 100000 → out.length + F.len ≤ 100000 → F.size ≤ 100000 → F.len < q → F.deep < f →
  Sp.ref14_bind_L0 (Sp.ref14_bind f) q (cs.map encC) ok out (i : Int) b0 b1 b2 b3 b4 b5 b6 T.enc 0 0 0 0 (bs []) (bs []) (bs []) [] γ (KRb K) = K b0 b1 b2 b3 b4 b5 b6 (out ++ (bdL (plB cs) F).enc) (ok && okL (plB cs) F)
theorem rb_E {cs : List Co} (hcs : cs.length ≤ 100000) {ks : Fo} (ih : RbL cs ks) (h : Hd) (f : Nat) (hf : ks.deep + 1 < f) (hl : ks.size ≤ 100000) : RbE cs f h ks := by
  intro γ K
  obtain ⟨f, rfl⟩ : ∃ g, f = g + 1 := ⟨f - 1, by omega⟩
  have hlen := Fo.len_size ks
  rw [Sp.ref14_bind]
  unfold Sp.B_ref14_bind okH bdH
  by_cases hk : h.k = 2
  · rw [decide_eq_true hk, cond_true, ref_Find_eq cs h.tab h.col hcs]
    unfold plB
    cases hp : fnd cs h.tab h.col with
    | none =>
      refine (ih ks 0 f fuel false [] h.k 0 h.vk h.vn (mk h.vs) (mk h.tab) (mk h.col) γ K rfl rfl (by omega) (by simp; omega) hl (by unfold fuel; omega) (by omega)).trans ?_
      rfl
    | some n =>
      refine (ih ks 0 f fuel true [] h.k n h.vk h.vn (mk h.vs) (mk h.tab) (mk h.col) γ K rfl rfl (by omega) (by simp; omega) hl (by unfold fuel; omega) (by omega)).trans ?_
      rfl
  · rw [decide_eq_false hk]
    refine (ih ks 0 f fuel true [] h.k h.n h.vk h.vn (mk h.vs) (mk h.tab) (mk h.col) γ K rfl rfl (by omega) (by simp; omega) hl (by unfold fuel; omega) (by omega)).trans ?_
    rfl
theorem rb_L {cs : List Co} (hcs : cs.length ≤ 100000) : ∀ F : Fo, RbL cs F
  | .nil => by
    intro T i f q ok out b0 b1 b2 b3 b4 b5 b6 γ K hd ho hi hout hsz hq hf
    obtain ⟨q, rfl⟩ : ∃ g, q = g + 1 := ⟨q - 1, by omega⟩
    rw [Sp.ref14_bind_L0]
    unfold Sp.B_ref14_bind_L0
    have hl := drop_nil hd
    rw [ho, decide_eq_false (show ¬ (i : Int) < Int.ofNat T.enc.length by simp only [Int.ofNat_eq_natCast]; omega), cond_true, cond_false]
    unfold KRb
    rw [ho]
    simp only [bdL, Fo.enc, List.append_nil, okL, Bool.and_true]
    rfl
  | .cons h ks r => by
    intro T i f q ok out b0 b1 b2 b3 b4 b5 b6 γ K hd ho hi hout hsz hq hf
    simp only [Fo.len, Fo.deep, Fo.size] at hi hout hsz hq hf
    obtain ⟨q, rfl⟩ : ∃ g, q = g + 1 := ⟨q - 1, by omega⟩
    rw [Sp.ref14_bind_L0]
    unfold Sp.B_ref14_bind_L0
    obtain ⟨hlt, _, hn⟩ := drop_enc hd
    rw [ho, cond_true, decide_eq_true (show (i : Int) < Int.ofNat T.enc.length by simp only [Int.ofNat_eq_natCast]; omega), cond_true, elem_enc hd, rb_E hcs (rb_L hcs ks) h f (by omega) (by omega), nextI (by omega)]
    rw [decide_eq_true (show (out.length + 1) * 105 ≤ 70368744177664 by omega)]
    simp only [Bool.and_self, cond_true, Bool.and_true]
    have hr := fun ok' => rb_L hcs r T (i + 1) f q ok' (out ++ [encE (bdH (plB cs) h) (bdL (plB cs) ks)]) b0 b1 b2 b3 b4 b5 b6 γ K hn (sized_append ho rfl) (by omega) (by rw [List.length_append, List.length_singleton]; omega) (by omega) (by omega) (by omega)
    rw [show okL (plB cs) (.cons h ks r) = (okH (plB cs) h && okL (plB cs) ks && okL (plB cs) r) by simp only [okL, Bool.and_assoc]]
    cases ok with
    | false =>
      rw [cond_false]
      refine (hr false).trans ?_
      rw [List.append_assoc]
      rfl
    | true =>
      rw [cond_true]
      refine (hr _).trans ?_
      rw [List.append_assoc]
      rfl
theorem ref_Bind_eq {h : Hd} {ks : Fo} (hs : Small h ks) (cs : List Co) (hl : cs.length ≤ 100000) (γ : Type) (K : KBd γ) :
    Sp.ref14_Bind h.k h.n h.vk h.vn (mk h.vs) (mk h.tab) (mk h.col) ks.enc (cs.map encC) γ K = putR (plB cs) h ks K := by
  unfold Sp.ref14_Bind Sp.B_ref14_Bind putR
  rw [ref_Check_eq hs]
  have h1 := hs.size
  have h2 := hs.deep
  cases ho : okE h ks with
  | false => rfl
  | true =>
    refine (rb_E hl (rb_L hl ks) h fuel (by unfold fuel; omega) (by omega) γ _).trans ?_
    cases (okH (plB cs) h && okL (plB cs) ks) <;> rfl
end Go.Proofs.YtppilomaljgkoaaGreatDoor

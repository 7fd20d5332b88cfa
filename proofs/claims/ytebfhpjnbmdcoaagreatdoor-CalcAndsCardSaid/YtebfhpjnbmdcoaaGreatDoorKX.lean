/- Whether an expression holds. -/
import Derived.Test.YtebfhpjnbmdcoaaGreatDoorKW
set_option linter.unusedVariables false
set_option linter.unusedSimpArgs false
namespace Go.Proofs.YtebfhpjnbmdcoaaGreatDoor
open Go Go.Aev Go.RowKit Go.Sort

/-- what is wrong with an expression -/
def mayI (h : Hd) (ks : Fo) : Int := cond (okE h ks) (cond (decide (0 < Int.ofNat ((encE h ks :: pre ks).filter (isKind 4)).length)) 1 0) 100
theorem cmay_eq {h : Hd} {ks : Fo} (hs : Small h ks) (γ : Type) (K : Int → Option γ) : Sp.calc_may h.k h.n h.vk h.vn (mk h.vs) (mk h.tab) (mk h.col) ks.enc γ K = K (mayI h ks) := by
  unfold Sp.calc_may Sp.B_calc_may mayI
  rw [Check_eq hs]
  cases hok : okE h ks with
  | false =>
    simp only [cond_false]
    rw [decide_eq_false (show ¬ (100 : Int) = 0 by decide)]
    rfl
  | true =>
    simp only [cond_true, decide_true, Bool.not_true, cond_false]
    rw [Aggs_eq hs, hok, cond_true]
    cases decide (0 < Int.ofNat ((encE h ks :: pre ks).filter (isKind 4)).length) <;> rfl
theorem kind_bad (h : Hd) (ks : Fo) (hk : isKind 4 (encE h ks) = true) : badD (encE h ks) = true := by
  have hk : decide (h.k = 4) = true := hk
  rw [bad_enc, hk]
  rfl
theorem noRisk_may {h : Hd} {ks : Fo} (hs : Small h ks) (hok : okE h ks = true) (hr : risk h ks = false) : mayI h ks = 0 := by
  have h1 := hs.size
  have h2 := hs.deep
  have : (encE h ks :: pre ks).filter (isKind 4) = [] := by
    rw [List.filter_eq_nil_iff]
    intro e he hk
    have hp : okD e := by
      rcases List.mem_cons.1 he with rfl | he
      · exact ⟨h, ks, rfl, by omega, by omega⟩
      · exact pre_ok ks (by omega) (by omega) e he
    obtain ⟨h', ks', rfl, _, _⟩ := hp
    have hb := kind_bad h' ks' hk
    unfold risk at hr
    rw [List.any_eq_false] at hr
    exact hr _ he hb
  unfold mayI
  rw [hok, this]
  rfl

/-! ### parts -/
theorem good_down : ∀ (F : Fo) (d : Nat) (a : Bool), goodL F (d + 1) a = true → goodL F d a = true
  | .nil, _, _, _ => rfl
  | .cons h ks r, d, a, hg => by
    simp only [goodL, Bool.and_eq_true, decide_eq_true_eq] at hg ⊢
    exact ⟨⟨by omega, hg.1.2.1, hg.1.2.2.1, good_down ks (d + 1) _ hg.1.2.2.2⟩, good_down r d a hg.2⟩
/-- one that may be, not too large -/
def PG (h : Hd) (ks : Fo) : Prop := Small h ks ∧ okE h ks = true
theorem PG_child {h h0 h1 : Hd} {k0 k1 : Fo} (hk : h.k = 3) (hp : PG h (.cons h0 k0 (.cons h1 k1 .nil))) : PG h0 k0 ∧ PG h1 k1 := by
  obtain ⟨⟨s1, s2, s3, s4⟩, ho⟩ := hp
  unfold okE at ho
  simp only [goodL, Bool.and_eq_true, decide_eq_true_eq, Bool.and_true, Fo.size, Fo.deep, Fo.all] at s1 s2 s4 ho
  rw [decide_eq_false (show ¬ h.k = 4 by omega)] at ho
  simp only [Bool.or_false] at ho
  obtain ⟨⟨_, _, _, g0, g1⟩, hz⟩ := ho
  have hz := of_decide_eq_true hz
  have b0 : h0.big = false := by simpa using s4.1.1
  have b1 : h1.big = false := by simpa using s4.2.1
  refine ⟨⟨⟨by omega, by omega, b0, s4.1.2⟩, ?_⟩, ⟨⟨by omega, by omega, b1, s4.2.2⟩, ?_⟩⟩
  · unfold okE
    rw [decide_eq_true (show 1 + k0.size ≤ 512 by omega), Bool.and_true]
    refine good_down _ _ _ ?_
    simp only [goodL, Bool.and_eq_true, decide_eq_true_eq, and_true]
    exact ⟨by omega, g0.2.1, g0.2.2.1, g0.2.2.2⟩
  · unfold okE
    rw [decide_eq_true (show 1 + k1.size ≤ 512 by omega), Bool.and_true]
    refine good_down _ _ _ ?_
    simp only [goodL, Bool.and_eq_true, decide_eq_true_eq, and_true]
    exact ⟨by omega, g1.2.1, g1.2.2.1, g1.2.2.2⟩
theorem PG_may {h : Hd} {ks : Fo} (hp : PG h ks) : may h ks.len = true ∧ wfL ks = true := by
  have ho := hp.2
  unfold okE at ho
  rw [Bool.and_eq_true] at ho
  have hw := wf_good _ _ _ ho.1
  simp only [wfL, Bool.and_eq_true] at hw
  exact ⟨hw.1, hw.2.1⟩
def PAll (P : Hd → Fo → Prop) : Fo → Prop
  | .nil => True
  | .cons h ks r => (P h ks → ∀ e ∈ partsE h ks, ∃ h' ks', e = encE h' ks' ∧ P h' ks') ∧ PAll P r
theorem pall_E {P : Hd → Fo → Prop} (hP : ∀ h h0 k0 h1 k1, h.k = 3 → P h (.cons h0 k0 (.cons h1 k1 .nil)) → P h0 k0 ∧ P h1 k1) (hm : ∀ h ks, P h ks → may h ks.len = true) {ks : Fo} (ih : PAll P ks) (h : Hd) (hp : P h ks) : ∀ e ∈ partsE h ks, ∃ h' ks', e = encE h' ks' ∧ P h' ks' := by
  intro e he
  by_cases hk : h.k = 3 ∧ h.n = 2
  · rcases may_op hk.1 (hm _ _ hp) with ⟨hlen, hn⟩ | ⟨hlen, hn1, hn2, hn3⟩
    · omega
    · obtain ⟨h0, k0, h1, k1, rfl⟩ := len_two hlen
      have e' : partsE h (Fo.cons h0 k0 (.cons h1 k1 .nil)) = partsE h0 k0 ++ partsE h1 k1 := by unfold partsE; rw [if_pos hk]; rfl
      rw [e'] at he
      obtain ⟨p0, p1⟩ := hP _ _ _ _ _ hk.1 hp
      rcases List.mem_append.1 he with he | he
      · exact ih.1 p0 e he
      · exact ih.2.1 p1 e he
  · unfold partsE at he
    rw [if_neg hk, List.mem_singleton] at he
    exact ⟨h, ks, he, hp⟩
theorem pall {P : Hd → Fo → Prop} (hP : ∀ h h0 k0 h1 k1, h.k = 3 → P h (.cons h0 k0 (.cons h1 k1 .nil)) → P h0 k0 ∧ P h1 k1) (hm : ∀ h ks, P h ks → may h ks.len = true) : ∀ F : Fo, PAll P F
  | .nil => trivial
  | .cons h ks r => ⟨fun hp => pall_E hP hm (pall hP hm ks) h hp, pall hP hm r⟩
theorem parts_PG {h : Hd} {ks : Fo} (hp : PG h ks) : ∀ e ∈ partsE h ks, ∃ h' ks', e = encE h' ks' ∧ PG h' ks' :=
  pall_E (P := PG) (fun _ _ _ _ _ hk hp => PG_child hk hp) (fun _ _ hp => (PG_may hp).1) (pall (fun _ _ _ _ _ hk hp => PG_child hk hp) (fun _ _ hp => (PG_may hp).1) ks) h hp
theorem parts_safe {h : Hd} {ks : Fo} (hp : PG h ks) (hr : risk h ks = false) : ∀ e ∈ partsE h ks, ∃ h' ks', e = encE h' ks' ∧ PG h' ks' ∧ risk h' ks' = false := by
  have hP : ∀ h h0 k0 h1 k1, h.k = 3 → (PG h (.cons h0 k0 (.cons h1 k1 .nil)) ∧ risk h (.cons h0 k0 (.cons h1 k1 .nil)) = false) → (PG h0 k0 ∧ risk h0 k0 = false) ∧ (PG h1 k1 ∧ risk h1 k1 = false) := fun _ _ _ _ _ hk hp => by
    obtain ⟨p0, p1⟩ := PG_child hk hp.1
    obtain ⟨_, r0, r1⟩ := risk_2 hp.2
    exact ⟨⟨p0, r0⟩, ⟨p1, r1⟩⟩
  exact pall_E (P := fun h ks => PG h ks ∧ risk h ks = false) hP (fun _ _ hp => (PG_may hp.1).1) (pall hP (fun _ _ hp => (PG_may hp.1).1) ks) h ⟨hp, hr⟩

theorem ev_of {r : List Vl} (hr0 : r.length ≤ 4611686018427387904) {h : Hd} {ks : Fo} (hp : PG h ks) : EvAt fuel r h ks := by
  obtain ⟨hm, hw⟩ := PG_may hp
  have := hp.1.deep
  exact ev_E (ev_L r hr0 ks hw) h hm fuel (by unfold fuel; omega) hr0

/-! ### which of them might err -/
def sfD (e : List Dat) : Bool := match preK 100 e with
  | some ys => !(ys.any badD)
  | none => false
theorem sfD_of {h : Hd} {ks : Fo} (hs : Small h ks) : sfD (encE h ks) = !(risk h ks) := by
  have := hs.deep
  unfold sfD risk
  rw [preK_eq h ks 100 (by omega)]
theorem Errs_eq {h : Hd} {ks : Fo} (hs : Small h ks) (γ : Type) (K : Bool → Option γ) : Sp.calc_Errs h.k h.n h.vk h.vn (mk h.vs) (mk h.tab) (mk h.col) ks.enc γ K = K (!(okE h ks && !(risk h ks))) := by
  unfold Sp.calc_Errs Sp.B_calc_Errs
  rw [Safe_eq hs]
  unfold risk
  cases okE h ks <;> rfl

/-! ### the parts that might not err, then the others -/
def okP (e : List Dat) : Prop := ∃ h ks, e = encE h ks ∧ PG h ks
theorem sized_P {l : List (List Dat)} (h : ∀ e ∈ l, okP e) : sized l 8 = true := by
  unfold sized
  rw [List.all_eq_true]
  intro e he
  obtain ⟨_, _, rfl, _⟩ := h e he
  rfl
theorem ltC {k : Nat} (h : k ≤ 100000) : decide ((k + 1) * 105 ≤ 70368744177664) = true := decide_eq_true (by omega)
theorem holds_0 (r : List (List Dat)) (l : List (List Dat)) (hl : ∀ e ∈ l, okP e) (hn : l.length ≤ 10000) (a : Bool) (b : Int) (γ : Type) (K : Ex → List (List Dat) → List (List Dat) → Int → Option γ) : ∀ (d i q : Nat) (s o : List (List Dat)), l.length = i + d → d < q → (∀ e ∈ s, okP e) → (∀ e ∈ o, okP e) → s.length ≤ i → o.length ≤ i →
    Sp.calc_Holds_L0 q r a b l (Int.ofNat l.length) s o (i : Int) γ K = K (Ex.exit 0) (s ++ (l.drop i).filter sfD) (o ++ (l.drop i).filter fun e => !sfD e) (l.length : Int) := by
  intro d
  induction d with
  | zero =>
    intro i q s o hi hq hs ho hsl hol
    obtain ⟨q, rfl⟩ : ∃ g, q = g + 1 := ⟨q - 1, by omega⟩
    rw [Sp.calc_Holds_L0]
    unfold Sp.B_calc_Holds_L0
    rw [sized_P hs, cond_true, sized_P ho, cond_true, decide_eq_false (show ¬ (i : Int) < Int.ofNat l.length by simp only [Int.ofNat_eq_natCast]; omega), cond_false, List.drop_eq_nil_of_le (by omega)]
    simp only [List.filter_nil, List.append_nil]
    rw [show i = l.length by omega]
  | succ d ih =>
    intro i q s o hi hq hs ho hsl hol
    obtain ⟨q, rfl⟩ : ∃ g, q = g + 1 := ⟨q - 1, by omega⟩
    rw [Sp.calc_Holds_L0]
    unfold Sp.B_calc_Holds_L0
    obtain ⟨e, he, hd⟩ := dropv_cons (l := l) (i := i) (by omega)
    have hel := hl e (List.mem_of_getElem? he)
    obtain ⟨h, ks, rfl, hp⟩ := hel
    have sf := sfD_of hp.1
    rw [sized_P hs, cond_true, sized_P ho, cond_true, decide_eq_true (show (i : Int) < Int.ofNat l.length by simp only [Int.ofNat_eq_natCast]; omega), cond_true, elem_at he, Errs_eq hp.1, hp.2, nextI (by omega), hd, List.filter_cons, List.filter_cons, sf]
    cases hrk : risk h ks with
    | true =>
      have ho' : ∀ e ∈ o ++ [encE h ks], okP e := fun e he => by
        rcases List.mem_append.1 he with he | he
        · exact ho e he
        · rw [List.mem_singleton] at he; exact ⟨h, ks, he, hp⟩
      have := ih (i + 1) q s (o ++ [encE h ks]) (by omega) (by omega) hs ho' (by omega) (by rw [List.length_append, List.length_singleton]; omega)
      simp only [Bool.not_true, Bool.and_false, Bool.not_false, cond_true]
      rw [ltC (by omega), if_neg (by simp), if_pos (by simp)]
      refine Eq.trans ?_ (this.trans ?_)
      · rfl
      · rw [List.append_assoc]; rfl
    | false =>
      have hs' : ∀ e ∈ s ++ [encE h ks], okP e := fun e he => by
        rcases List.mem_append.1 he with he | he
        · exact hs e he
        · rw [List.mem_singleton] at he; exact ⟨h, ks, he, hp⟩
      have := ih (i + 1) q (s ++ [encE h ks]) o (by omega) (by omega) hs' ho (by rw [List.length_append, List.length_singleton]; omega) (by omega)
      simp only [Bool.not_true, Bool.and_true, Bool.not_false, cond_false]
      rw [ltC (by omega), if_pos (by simp), if_neg (by simp)]
      refine Eq.trans ?_ (this.trans ?_)
      · rfl
      · rw [List.append_assoc]; rfl

/-! ### one by one -/
def evD (r : List Vl) : List Dat → Option (Vl × Bool)
  | [.int _ k, .int _ n, .int _ vk, .int _ vn, .str vs, .str tab, .str col, .sl l] => Sp.calc_eval fuel k n vk vn vs tab col l (r.map Vl.enc) (Vl × Bool) fun a b s is => some (⟨a, b, s⟩, is)
  | _ => none
theorem evD_of {r : List Vl} {h : Hd} {ks : Fo} {v : Vl} {is : Bool} (hv : EvIs fuel r h ks v is) : evD r (encE h ks) = some (v, is) := by
  show Sp.calc_eval fuel h.k h.n h.vk h.vn (mk h.vs) (mk h.tab) (mk h.col) ks.enc (r.map Vl.enc) (Vl × Bool) (fun a b s is => some (⟨a, b, s⟩, is)) = some (v, is)
  rw [hv]
def hol (r : List Vl) : List (List Dat) → Bool × Int
  | [] => (true, 0)
  | e :: l => match evD r e with
    | some (v, is) => cond is (cond (decide (tru v = 1)) (hol r l) (false, 0)) (false, 160)
    | none => (false, 0)
def KH {γ : Type} (K : Bool → Int → Option γ) : Ex → Bool → Int → Int → Option γ := fun z17 z18 z19 z20 => bif Ex.isExit z17 2 then K true 0 else bif Ex.isRet z17 then K z18 z19 else none
theorem holds_2 (r : List Vl) (hr0 : r.length ≤ 4611686018427387904) (l : List (List Dat)) (hl : ∀ e ∈ l, okP e) (hn : l.length ≤ 100000) (a : Bool) (b : Int) (γ : Type) (K : Bool → Int → Option γ) : ∀ (d i q : Nat), l.length = i + d → d < q →
    Sp.calc_Holds_L2 q (r.map Vl.enc) l (Int.ofNat l.length) a b (i : Int) γ (KH K) = K (hol r (l.drop i)).1 (hol r (l.drop i)).2 := by
  intro d
  induction d with
  | zero =>
    intro i q hi hq
    obtain ⟨q, rfl⟩ : ∃ g, q = g + 1 := ⟨q - 1, by omega⟩
    rw [Sp.calc_Holds_L2]
    unfold Sp.B_calc_Holds_L2
    rw [decide_eq_false (show ¬ (i : Int) < Int.ofNat l.length by simp only [Int.ofNat_eq_natCast]; omega), cond_false, List.drop_eq_nil_of_le (by omega)]
    rfl
  | succ d ih =>
    intro i q hi hq
    obtain ⟨q, rfl⟩ : ∃ g, q = g + 1 := ⟨q - 1, by omega⟩
    rw [Sp.calc_Holds_L2]
    unfold Sp.B_calc_Holds_L2
    obtain ⟨e, he, hd⟩ := dropv_cons (l := l) (i := i) (by omega)
    obtain ⟨h, ks, rfl, hp⟩ := hl e (List.mem_of_getElem? he)
    obtain ⟨v, is, _, _, hv⟩ := ev_of hr0 hp
    have hv' := hv
    unfold EvIs at hv'
    rw [decide_eq_true (show (i : Int) < Int.ofNat l.length by simp only [Int.ofNat_eq_natCast]; omega), cond_true, elem_at he, hv', hd, hol, evD_of hv, nextI (by omega), ih (i + 1) q (by omega) (by omega), Truth_eq]
    cases is with
    | false => rfl
    | true =>
      simp only [Bool.not_true, cond_false, cond_true]
      cases decide (tru v = 1) <;> rfl

/-- does an expression hold? -/
def holdsE (r : List Vl) (h : Hd) (ks : Fo) : Bool × Int :=
  cond (decide (mayI h ks = 0)) (hol r ((partsE h ks).filter sfD ++ (partsE h ks).filter fun e => !sfD e)) (false, mayI h ks)
theorem mayI_ok {h : Hd} {ks : Fo} (h0 : mayI h ks = 0) : okE h ks = true := by
  unfold mayI at h0
  cases hok : okE h ks with
  | true => rfl
  | false => rw [hok] at h0; cases h0
theorem Holds_eq {r : List Vl} (hr0 : r.length ≤ 4611686018427387904) {h : Hd} {ks : Fo} (hs : Small h ks) (γ : Type) (K : Bool → Int → Option γ) : Sp.calc_Holds h.k h.n h.vk h.vn (mk h.vs) (mk h.tab) (mk h.col) ks.enc (r.map Vl.enc) γ K = K (holdsE r h ks).1 (holdsE r h ks).2 := by
  unfold Sp.calc_Holds Sp.B_calc_Holds holdsE
  rw [cmay_eq hs]
  by_cases h0 : mayI h ks = 0
  · rw [decide_eq_true h0, Bool.not_true, cond_false, Parts_eq hs, cond_true]
    have hok := mayI_ok h0
    have hp : PG h ks := ⟨hs, hok⟩
    have hparts := parts_PG hp
    have hlen := (part_of hs hok).2.2
    have hsz := hs.size
    rw [hok, cond_true]
    refine (holds_0 _ (partsE h ks) hparts (by omega) false 0 γ _ (partsE h ks).length 0 fuel [] [] (by omega) (by unfold fuel; omega) (fun _ h => (by cases h)) (fun _ h => (by cases h)) (by simp) (by simp)).trans ?_
    rw [List.drop_zero, List.nil_append, List.nil_append]
    have q1 : ∀ e ∈ (partsE h ks).filter sfD, okP e := fun e he => hparts e (List.mem_filter.1 he).1
    have q2 : ∀ e ∈ (partsE h ks).filter (fun e => !sfD e), okP e := fun e he => hparts e (List.mem_filter.1 he).1
    have l1 := List.length_filter_le sfD (partsE h ks)
    have l2 := List.length_filter_le (fun e => !sfD e) (partsE h ks)
    rw [sized_P q1, sized_P q2, cond_true, cond_true, isEx, cond_true, decide_eq_true (show (((partsE h ks).filter sfD).length + ((partsE h ks).filter fun e => !sfD e).length) * 105 ≤ 70368744177664 by omega)]
    simp only [Bool.and_self, cond_true]
    have q3 : ∀ e ∈ (partsE h ks).filter sfD ++ (partsE h ks).filter (fun e => !sfD e), okP e := fun e he => by
      rcases List.mem_append.1 he with he | he
      · exact q1 e he
      · exact q2 e he
    have := holds_2 r hr0 _ q3 (by rw [List.length_append]; omega) false 0 γ K _ 0 fuel (Nat.zero_add _).symm (by rw [List.length_append]; unfold fuel; omega)
    rw [List.drop_zero] at this
    exact this
  · rw [decide_eq_false h0]
    rfl

end Go.Proofs.YtebfhpjnbmdcoaaGreatDoor

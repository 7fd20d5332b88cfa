/- CalcAnds: its plain law. -/
import Derived.Test.YtebfhpjnbmdcoaaGreatDoorKX
import Derived.Test.YtebfhpjnbmdcoaaGreatDoorKL
set_option linter.unusedVariables false
set_option linter.unusedSimpArgs false
namespace Go.Proofs.YtebfhpjnbmdcoaaGreatDoor
open Go Go.Aev Go.RowKit Go.Sort

theorem ref_May_eq {h : Hd} {ks : Fo} (hs : Small h ks) (γ : Type) (K : Int → Option γ) : Sp.ref16_May h.k h.n h.vk h.vn (mk h.vs) (mk h.tab) (mk h.col) ks.enc γ K = K (mayI h ks) := by
  unfold Sp.ref16_May Sp.B_ref16_May mayI
  rw [ref_Check_eq hs]
  cases hok : okE h ks with
  | false => rfl
  | true =>
    rw [Bool.not_true, cond_false, Kinds_eq hs, cond_true]
    cases decide (0 < Int.ofNat ((encE h ks :: pre ks).filter (isKind 4)).length) <;> rfl

/-! ### all of them together -/
def andH : Hd := ⟨3, 2, 0, 0, [], [], []⟩
def trueH : Hd := ⟨1, 0, 1, 1, [], [], []⟩
def allH (h : Hd) (ks : Fo) : Fo → Hd
  | .nil => h
  | .cons h' ks' r => allH andH (.cons h ks (.cons h' ks' .nil)) r
def allK (h : Hd) (ks : Fo) : Fo → Fo
  | .nil => ks
  | .cons h' ks' r => allK andH (.cons h ks (.cons h' ks' .nil)) r
def partsF : Fo → List (List Dat)
  | .nil => []
  | .cons h ks r => partsE h ks ++ partsF r
theorem parts_all : ∀ (F : Fo) (h : Hd) (ks : Fo), partsE (allH h ks F) (allK h ks F) = partsE h ks ++ partsF F
  | .nil, h, ks => (List.append_nil _).symm
  | .cons h' ks' r, h, ks => by
    rw [allH, allK, parts_all r]
    have : partsE andH (.cons h ks (.cons h' ks' .nil)) = partsE h ks ++ partsE h' ks' := by
      unfold partsE
      rw [if_pos (show andH.k = 3 ∧ andH.n = 2 from ⟨rfl, rfl⟩)]
      rfl
    rw [this, partsF, List.append_assoc]
def KAll {γ : Type} (K : Int → Int → Int → Int → ByteArray → ByteArray → ByteArray → List (List Dat) → Option γ) : Ex → Int → Int → Int → Int → Int → ByteArray → ByteArray → ByteArray → List (List Dat) → Int → Int → Int → Int → ByteArray → ByteArray → ByteArray → List (List Dat) → Option γ :=
  fun z31 z32 z33 z34 z35 z36 z37 z38 z39 z40 z41 z42 z43 z44 z45 z46 z47 z48 => bif Ex.isExit z31 0 then K z41 z42 z43 z44 z45 z46 z47 z48 else bif Ex.isRet z31 then K z33 z34 z35 z36 z37 z38 z39 z40 else none
theorem all_loop (T : Fo) (hT : T.enc.length ≤ 1000) (b0 b1 b2 b3 : Int) (b4 b5 b6 : ByteArray) (b7 : List (List Dat)) (γ : Type) (K : Int → Int → Int → Int → ByteArray → ByteArray → ByteArray → List (List Dat) → Option γ) : ∀ (F : Fo) (i q : Nat) (h : Hd) (ks : Fo), T.enc.drop i = F.enc → F.len < q →
    Sp.ref10_All_L0 q T.enc (i : Int) b0 b1 b2 b3 b4 b5 b6 b7 h.k h.n h.vk h.vn (mk h.vs) (mk h.tab) (mk h.col) ks.enc γ (KAll K) = K (allH h ks F).k (allH h ks F).n (allH h ks F).vk (allH h ks F).vn (mk (allH h ks F).vs) (mk (allH h ks F).tab) (mk (allH h ks F).col) (allK h ks F).enc
  | .nil => by
    intro i q h ks hd hq
    obtain ⟨q, rfl⟩ : ∃ g, q = g + 1 := ⟨q - 1, by omega⟩
    rw [Sp.ref10_All_L0]
    unfold Sp.B_ref10_All_L0
    have hl := drop_nil hd
    rw [decide_eq_false (show ¬ (i : Int) < Int.ofNat T.enc.length by simp only [Int.ofNat_eq_natCast]; omega), cond_false]
    rfl
  | .cons h' ks' r => by
    intro i q h ks hd hq
    simp only [Fo.len] at hq
    obtain ⟨q, rfl⟩ : ∃ g, q = g + 1 := ⟨q - 1, by omega⟩
    rw [Sp.ref10_All_L0]
    unfold Sp.B_ref10_All_L0
    obtain ⟨hlt, _, hn⟩ := drop_enc hd
    rw [decide_eq_true (show (i : Int) < Int.ofNat T.enc.length by simp only [Int.ofNat_eq_natCast]; omega), cond_true, elem_enc hd, nextI (by omega)]
    exact all_loop T hT b0 b1 b2 b3 b4 b5 b6 b7 γ K r (i + 1) q andH (.cons h ks (.cons h' ks' .nil)) hn (by omega)
def xH : Fo → Hd
  | .nil => trueH
  | .cons h ks r => allH h ks r
def xK : Fo → Fo
  | .nil => .nil
  | .cons h ks r => allK h ks r
theorem All_eq (T : Fo) (hT : T.enc.length ≤ 1000) (γ : Type) (K : Int → Int → Int → Int → ByteArray → ByteArray → ByteArray → List (List Dat) → Option γ) : Sp.ref10_All T.enc γ K = K (xH T).k (xH T).n (xH T).vk (xH T).vn (mk (xH T).vs) (mk (xH T).tab) (mk (xH T).col) (xK T).enc := by
  unfold Sp.ref10_All Sp.B_ref10_All
  cases T with
  | nil => rfl
  | cons h ks r =>
    have hz : ¬ Int.ofNat (Fo.cons h ks r).enc.length = 0 := by
      simp only [Fo.enc_len, Fo.len, Int.ofNat_eq_natCast]
      omega
    rw [decide_eq_false hz, cond_false, elem0]
    have hl := Fo.enc_len (.cons h ks r)
    simp only [Fo.len] at hl
    exact all_loop (.cons h ks r) hT 0 0 0 0 (bs []) (bs []) (bs []) [] γ K r 1 fuel h ks rfl (by unfold fuel; omega)

/-! ### what holds -/
def fine (r : List Vl) (e : List Dat) : Bool := match evD r e with
  | some (v, is) => is && decide (tru v = 1)
  | none => false
theorem hol_all (r : List Vl) : ∀ l : List (List Dat), (hol r l).1 = l.all (fine r)
  | [] => rfl
  | e :: l => by
    rw [hol, List.all_cons, ← hol_all r l]
    unfold fine
    cases evD r e with
    | none => rfl
    | some p =>
      obtain ⟨v, is⟩ := p
      cases is with
      | false => rfl
      | true =>
        show (cond (decide (tru v = 1)) (hol r l) (false, 0)).1 = ((true && decide (tru v = 1)) && (hol r l).1)
        cases decide (tru v = 1) <;> rfl
theorem hol_true (r : List Vl) : ∀ l : List (List Dat), (hol r l).1 = true → (hol r l).2 = 0
  | [], _ => rfl
  | e :: l, h => by
    rw [hol] at h ⊢
    cases hv : evD r e with
    | none => rfl
    | some p =>
      obtain ⟨v, is⟩ := p
      rw [hv] at h
      cases is with
      | false => cases h
      | true =>
        have h : (cond (decide (tru v = 1)) (hol r l) (false, 0)).1 = true := h
        show (cond (decide (tru v = 1)) (hol r l) (false, 0)).2 = 0
        cases ht : decide (tru v = 1) with
        | false => rfl
        | true => rw [ht] at h; exact hol_true r l h
/-- of parts that do not err one does not hold -/
theorem hol_false (r : List Vl) (o : List (List Dat)) : ∀ s : List (List Dat), (∀ e ∈ s, ∃ v, evD r e = some (v, true)) → (∃ e ∈ s, fine r e = false) → hol r (s ++ o) = (false, 0)
  | [], _, h => by obtain ⟨e, he, _⟩ := h; cases he
  | e :: s, hs, h => by
    obtain ⟨v, hv⟩ := hs e (List.mem_cons_self ..)
    rw [List.cons_append, hol, hv]
    show cond (decide (tru v = 1)) (hol r (s ++ o)) (false, 0) = (false, 0)
    cases ht : decide (tru v = 1) with
    | false => rfl
    | true =>
      rw [cond_true]
      refine hol_false r o s (fun e he => hs e (List.mem_cons_of_mem _ he)) ?_
      obtain ⟨e', he', hf⟩ := h
      rcases List.mem_cons.1 he' with rfl | he'
      · unfold fine at hf
        rw [hv] at hf
        have hf : (true && decide (tru v = 1)) = false := hf
        rw [ht] at hf
        cases hf
      · exact ⟨e', he', hf⟩
theorem all_split (p q : List Dat → Bool) (l : List (List Dat)) : (l.filter q ++ l.filter fun e => !q e).all p = l.all p := by
  rw [Bool.eq_iff_iff]
  simp only [List.all_eq_true, List.mem_append, List.mem_filter]
  constructor
  · intro h e he
    cases hq : q e with
    | true => exact h e (.inl ⟨he, hq⟩)
    | false => exact h e (.inr ⟨he, by rw [hq]; rfl⟩)
  · rintro h e (⟨he, _⟩ | ⟨he, _⟩) <;> exact h e he

/-! ### the parts of the law -/
def lgF : Fo → Bool
  | .nil => false
  | .cons h ks r => large h ks || lgF r
def allB (r : List Vl) : Fo → Bool
  | .nil => true
  | .cons h ks t => (holdsE r h ks).1 && (decide ((holdsE r h ks).2 = 0) && allB r t)
def noB (r : List Vl) : Fo → Bool
  | .nil => false
  | .cons h ks t => (decide ((holdsE r h ks).2 = 0) && (!(holdsE r h ks).1 && !(risk h ks))) || noB r t
theorem allB_parts (r : List Vl) : ∀ F : Fo, allB r F = true → (partsF F).all (fine r) = true
  | .nil, _ => rfl
  | .cons h ks t, ha => by
    simp only [allB, Bool.and_eq_true, decide_eq_true_eq] at ha
    obtain ⟨h1, h2, h3⟩ := ha
    rw [partsF, List.all_append, allB_parts r t h3, Bool.and_true]
    unfold holdsE at h1
    cases hm : decide (mayI h ks = 0) with
    | false => rw [hm] at h1; cases h1
    | true =>
      rw [hm, cond_true, hol_all, all_split] at h1
      exact h1
theorem noB_parts {r : List Vl} (hr0 : r.length ≤ 4611686018427387904) : ∀ F : Fo, lgF F = false → noB r F = true → ∃ e ∈ partsF F, sfD e = true ∧ fine r e = false
  | .nil, _, hn => by cases hn
  | .cons h ks t, hl, hn => by
    simp only [lgF, Bool.or_eq_false_iff] at hl
    simp only [noB, Bool.or_eq_true] at hn
    rcases hn with hn | hn
    · simp only [Bool.and_eq_true, decide_eq_true_eq, Bool.not_eq_true'] at hn
      obtain ⟨h2, h1, hr⟩ := hn
      have hs := small_of hl.1
      have hm : mayI h ks = 0 := by
        by_cases h0 : mayI h ks = 0
        · exact h0
        · unfold holdsE at h2
          rw [decide_eq_false h0] at h2
          exact h2
      have hp : PG h ks := ⟨hs, mayI_ok hm⟩
      unfold holdsE at h1
      rw [decide_eq_true hm, cond_true, hol_all, all_split] at h1
      rw [List.all_eq_false] at h1
      obtain ⟨e, he, hf⟩ := h1
      obtain ⟨h', ks', rfl, hp', hr'⟩ := parts_safe hp hr e he
      exact ⟨_, List.mem_append_left _ he, by rw [sfD_of hp'.1, hr']; rfl, by simpa using hf⟩
    · obtain ⟨e, he, h1, h2⟩ := noB_parts hr0 t hl.2 hn
      exact ⟨e, List.mem_append_right _ he, h1, h2⟩
theorem safe_ev {r : List Vl} (hr0 : r.length ≤ 4611686018427387904) {e : List Dat} (he : okP e) (hs : sfD e = true) : ∃ v, evD r e = some (v, true) := by
  obtain ⟨h, ks, rfl, hp⟩ := he
  obtain ⟨v, is, _, v2, v3⟩ := ev_of hr0 hp
  rw [sfD_of hp.1] at hs
  have : is = true := v2 (by simpa using hs)
  subst this
  exact ⟨v, evD_of v3⟩
theorem lit_fine (r : List Vl) : fine r (encE trueH .nil) = true := by
  have : EvIs fuel r trueH .nil ⟨1, 1, bs []⟩ true := fun γ K => by
    obtain ⟨q, hq⟩ := fuel3
    rw [hq, Sp.calc_eval]
    rfl
  unfold fine
  rw [evD_of this]
  rfl
theorem x_parts : ∀ F : Fo, partsE (xH F) (xK F) = match F with
    | .nil => [encE trueH .nil]
    | F => partsF F
  | .nil => rfl
  | .cons h ks r => parts_all r h ks
/-- parts that all hold hold together; if one that is safe does not, they do not -/
theorem together {r : List Vl} (hr0 : r.length ≤ 4611686018427387904) (F : Fo) (hl : lgF F = false) (hp : PG (xH F) (xK F)) (hm : mayI (xH F) (xK F) = 0) : (allB r F = true → holdsE r (xH F) (xK F) = (true, 0)) ∧ (noB r F = true → holdsE r (xH F) (xK F) = (false, 0)) := by
  unfold holdsE
  rw [decide_eq_true hm, cond_true]
  have hparts := parts_PG hp
  have hx := x_parts F
  constructor
  · intro ha
    have h1 : (hol r ((partsE (xH F) (xK F)).filter sfD ++ (partsE (xH F) (xK F)).filter fun e => !sfD e)).1 = true := by
      rw [hol_all, all_split, hx]
      cases F with
      | nil =>
        show ([encE trueH .nil]).all (fine r) = true
        rw [List.all_cons, lit_fine]
        rfl
      | cons h ks t => exact allB_parts r _ ha
    have h2 := hol_true r _ h1
    exact Prod.ext h1 h2
  · intro hn
    have hpf : partsE (xH F) (xK F) = partsF F := by
      cases F with
      | nil => cases hn
      | cons h ks t => exact hx
    obtain ⟨e, he, h1, h2⟩ := noB_parts hr0 F hl hn
    refine hol_false r _ _ (fun e he => ?_) ⟨e, List.mem_filter.2 ⟨by rw [hpf]; exact he, h1⟩, h2⟩
    obtain ⟨he1, he2⟩ := List.mem_filter.1 he
    exact safe_ev hr0 (hparts e he1) he2

def KAnd {γ : Type} (X : Bool → Bool → Option γ) (K : Bool → Option γ) : Ex → Bool → Bool → Bool → Int → Option γ := fun z7 z8 z9 z10 z11 => bif Ex.isExit z7 0 then X z9 z10 else bif Ex.isRet z7 then K z8 else none
theorem ands_loop {r : List Vl} (hr0 : r.length ≤ 4611686018427387904) (T : Fo) (hT : T.enc.length ≤ 1000) (γ : Type) (X : Bool → Bool → Option γ) (K : Bool → Option γ) : ∀ (F : Fo) (i q : Nat) (a n : Bool), T.enc.drop i = F.enc → F.len < q →
    Sp.law16_CalcAnds_L0 q T.enc (r.map Vl.enc) false a n (i : Int) γ (KAnd X K) = cond (lgF F) (K true) (X (a && allB r F) (n || noB r F))
  | .nil => by
    intro i q a n hd hq
    obtain ⟨q, rfl⟩ : ∃ g, q = g + 1 := ⟨q - 1, by omega⟩
    rw [Sp.law16_CalcAnds_L0]
    unfold Sp.B_law16_CalcAnds_L0
    have hl := drop_nil hd
    rw [decide_eq_false (show ¬ (i : Int) < Int.ofNat T.enc.length by simp only [Int.ofNat_eq_natCast]; omega), cond_false]
    cases a <;> cases n <;> rfl
  | .cons h ks t => by
    intro i q a n hd hq
    simp only [Fo.len] at hq
    obtain ⟨q, rfl⟩ : ∃ g, q = g + 1 := ⟨q - 1, by omega⟩
    rw [Sp.law16_CalcAnds_L0]
    unfold Sp.B_law16_CalcAnds_L0
    obtain ⟨hlt, _, hn⟩ := drop_enc hd
    rw [decide_eq_true (show (i : Int) < Int.ofNat T.enc.length by simp only [Int.ofNat_eq_natCast]; omega), cond_true, elem_enc hd, Large_eq]
    cases hlg : large h ks with
    | true =>
      rw [cond_true, lives_eq]
      have : lgF (.cons h ks t) = true := by rw [lgF, hlg]; rfl
      rw [this]
      rfl
    | false =>
      have hs := small_of hlg
      have e1 : lgF (.cons h ks t) = lgF t := by rw [lgF, hlg]; rfl
      rw [cond_false, elem_enc hd, Holds_eq hr0 hs, nextI (by omega), e1, allB, noB]
      have ih := fun a n => ands_loop hr0 T hT γ X K t (i + 1) q a n hn (by omega)
      generalize holdsE r h ks = p
      obtain ⟨b, e⟩ := p
      cases hE : decide (e = 0) <;> cases b <;> cases a <;> cases n <;> simp only [hE, cond_true, cond_false, Bool.not_true, Bool.not_false] <;> first
        | (rw [ih]; simp; done)
        | (rw [elem_enc hd, ref_Safe_eq hs, ih]; unfold risk; simp; done)

theorem rows_large (l : List (List Dat)) (γ : Type) (K : Bool → Option γ) : Sp.law16_large l γ K = K (decide (100 < Int.ofNat l.length)) := rfl
theorem ands (F : Fo) (r : List Vl) (hrl : r.length ≤ 9223372036854775807) (γ : Type) (K : Bool → Option γ) : Sp.law16_CalcAnds F.enc (r.map Vl.enc) γ K = K true := by
  unfold Sp.law16_CalcAnds Sp.B_law16_CalcAnds
  rw [rows_large, List.length_map]
  by_cases h100 : (100 : Int) < Int.ofNat r.length
  · rw [decide_eq_true h100, cond_true, lives_eq]
  rw [decide_eq_false h100, cond_false]
  by_cases h10 : (10 : Int) < Int.ofNat F.enc.length
  · rw [decide_eq_true h10, cond_true, lives_eq]
  rw [decide_eq_false h10, cond_false]
  have hr0 : r.length ≤ 4611686018427387904 := by simp only [Int.ofNat_eq_natCast] at h100; omega
  have hT : F.enc.length ≤ 1000 := by simp only [Int.ofNat_eq_natCast] at h10; omega
  have hlen := Fo.enc_len F
  refine (ands_loop hr0 F hT γ _ K F 0 fuel true false rfl (by unfold fuel; omega)).trans ?_
  cases hlg : lgF F with
  | true => rfl
  | false =>
    rw [cond_false, All_eq F hT, lives_eq, Bool.not_true, cond_false, Large_eq]
    cases hl : large (xH F) (xK F) with
    | true => rw [cond_true, lives_eq]
    | false =>
      have hs := small_of hl
      rw [cond_false, ref_May_eq hs]
      by_cases hm : mayI (xH F) (xK F) = 0
      · rw [decide_eq_true hm, Bool.not_true, cond_false, Holds_eq hr0 hs]
        obtain ⟨t1, t2⟩ := together hr0 F hlg ⟨hs, mayI_ok hm⟩ hm
        cases ha : allB r F with
        | true =>
          rw [t1 ha]
          cases hn : noB r F with
          | false => rfl
          | true =>
            have := (t1 ha).symm.trans (t2 hn)
            cases this
        | false =>
          cases hn : noB r F with
          | false => rfl
          | true => rw [t2 hn]; rfl
      · rw [decide_eq_false hm, Bool.not_false, cond_true, lives_eq]

end Go.Proofs.YtebfhpjnbmdcoaaGreatDoor

/- What expressions come to. -/
import Derived.Test.YtebfhpjnbmdcoaaGreatDoorKC
import Derived.Test.YtebfhpjnbmdcoaaGreatDoorKV
set_option linter.unusedVariables false
set_option linter.unusedSimpArgs false
namespace Go.Proofs.YtebfhpjnbmdcoaaGreatDoor
open Go Go.Aev Go.RowKit Go.Sort

/-- might it err? -/
def risk (h : Hd) (ks : Fo) : Bool := (encE h ks :: pre ks).any badD
def EvIs (f : Nat) (r : List Vl) (h : Hd) (ks : Fo) (v : Vl) (is : Bool) : Prop := ∀ (γ : Type) (K : Int → Int → ByteArray → Bool → Option γ),
  Sp.calc_eval f h.k h.n h.vk h.vn (mk h.vs) (mk h.tab) (mk h.col) ks.enc (r.map Vl.enc) γ K = K v.k v.n v.s is
def OpIs (f : Nat) (r : List Vl) (h : Hd) (ks : Fo) (v : Vl) (is : Bool) : Prop := ∀ (γ : Type) (K : Int → Int → ByteArray → Bool → Option γ),
  Sp.calc_op f h.k h.n h.vk h.vn (mk h.vs) (mk h.tab) (mk h.col) ks.enc (r.map Vl.enc) γ K = K v.k v.n v.s is
def EvAt (f : Nat) (r : List Vl) (h : Hd) (ks : Fo) : Prop := ∃ (v : Vl) (is : Bool), (is = true → r.all Vl.ok = true → v.ok = true) ∧ (risk h ks = false → is = true) ∧ EvIs f r h ks v is
def OpAt (f : Nat) (r : List Vl) (h : Hd) (ks : Fo) : Prop := ∃ (v : Vl) (is : Bool), (is = true → r.all Vl.ok = true → v.ok = true) ∧ (risk h ks = false → is = true) ∧ OpIs f r h ks v is
def EvL (r : List Vl) : Fo → Prop
  | .nil => True
  | .cons h ks t => (∀ f, 3 * ks.deep + 6 ≤ f → EvAt f r h ks) ∧ EvL r t

theorem sized_vl (l : List Vl) : sized (l.map Vl.enc) 3 = true := by
  unfold sized
  rw [List.all_eq_true]
  intro e he
  obtain ⟨v, _, rfl⟩ := List.mem_map.1 he
  rfl
theorem ltB {k : Nat} (h : k ≤ 5) : decide ((k + 1) * 33 ≤ 70368744177664) = true := decide_eq_true (by omega)
theorem op_round {A : Ty_calc_logic} {B : Ty_calc_op} {f : Nat} {r : List Vl} {T : Fo} {i : Nat} {h : Hd} {ks rest : Fo} (hd : T.enc.drop i = (Fo.cons h ks rest).enc) {v : Vl} {is : Bool} (ev : EvIs f r h ks v is) (q : Nat) (len : Int) (hl : (i : Int) < len) (hi : i ≤ 5) (a : Bool) (l : List Vl) (hll : l.length ≤ 5) (b0 b1 b2 b3 : Int) (b4 b5 b6 : ByteArray) (b7 : List (List Dat)) (c0 c1 : Int) (c2 : ByteArray) (γ : Type) (K : Ex → Bool → List (List Dat) → Int → Int → Int → Int → Int → ByteArray → ByteArray → ByteArray → List (List Dat) → Int → Int → ByteArray → Option γ) :
    Sp.calc_op_L0 A B (Sp.calc_eval f) (q + 1) (r.map Vl.enc) T.enc len a (l.map Vl.enc) (i : Int) b0 b1 b2 b3 b4 b5 b6 b7 c0 c1 c2 γ K =
      cond is (Sp.calc_op_L0 A B (Sp.calc_eval f) q (r.map Vl.enc) T.enc len a ((l ++ [v]).map Vl.enc) ((i + 1 : Nat) : Int) b0 b1 b2 b3 b4 b5 b6 b7 c0 c1 c2 γ K) (K Ex.ret false (l.map Vl.enc) (i : Int) b0 b1 b2 b3 b4 b5 b6 b7 0 0 (bs [])) := by
  rw [Sp.calc_op_L0]
  unfold Sp.B_calc_op_L0
  rw [sized_vl, cond_true, decide_eq_true hl, cond_true, elem_enc hd, ev, List.length_map, ltB hll, nextI (by omega), List.map_append]
  cases is <;> rfl
theorem op_end {A : Ty_calc_logic} {B : Ty_calc_op} {E : Ty_calc_eval} (r t : List (List Dat)) (q : Nat) (len i : Int) (hl : ¬ i < len) (a : Bool) (l : List Vl) (b0 b1 b2 b3 : Int) (b4 b5 b6 : ByteArray) (b7 : List (List Dat)) (c0 c1 : Int) (c2 : ByteArray) (γ : Type) (K : Ex → Bool → List (List Dat) → Int → Int → Int → Int → Int → ByteArray → ByteArray → ByteArray → List (List Dat) → Int → Int → ByteArray → Option γ) :
    Sp.calc_op_L0 A B E (q + 1) r t len a (l.map Vl.enc) i b0 b1 b2 b3 b4 b5 b6 b7 c0 c1 c2 γ K = K (Ex.exit 0) a (l.map Vl.enc) i b0 b1 b2 b3 b4 b5 b6 b7 c0 c1 c2 := by
  rw [Sp.calc_op_L0]
  unfold Sp.B_calc_op_L0
  rw [sized_vl, cond_true, decide_eq_false hl]
  rfl

theorem risk_1 {h h0 : Hd} {k0 : Fo} (hr : risk h (.cons h0 k0 .nil) = false) : badD (encE h (.cons h0 k0 .nil)) = false ∧ risk h0 k0 = false := by
  unfold risk at *
  simp only [pre, List.any_cons, List.any_append, List.append_nil, Bool.or_eq_false_iff] at *
  exact ⟨hr.1, hr.2.1, hr.2.2⟩
theorem risk_2 {h h0 h1 : Hd} {k0 k1 : Fo} (hr : risk h (.cons h0 k0 (.cons h1 k1 .nil)) = false) : badD (encE h (.cons h0 k0 (.cons h1 k1 .nil))) = false ∧ risk h0 k0 = false ∧ risk h1 k1 = false := by
  unfold risk at *
  simp only [pre, List.any_cons, List.any_append, List.append_nil, Bool.or_eq_false_iff] at *
  exact ⟨hr.1, ⟨hr.2.1, hr.2.2.1⟩, hr.2.2.2.1, hr.2.2.2.2⟩
theorem bad_op {h : Hd} {ks : Fo} (hk : h.k = 3) (hn : 10 ≤ h.n ∧ h.n ≤ 15) : badD (encE h ks) = true := by
  rw [bad_enc, decide_eq_true hk, decide_eq_true hn.1, decide_eq_true hn.2]
  simp

def tru (v : Vl) : Int := V.tru v.k v.n v.s
theorem Truth_eq (v : Vl) (γ : Type) (K : Int → Option γ) : Sp.value_Truth v.k v.n v.s γ K = K (tru v) := value_Truth_eq _ _ _ _ _

theorem isEx : Ex.isExit (Ex.exit 0) 0 = true := rfl

/-- an operator of one part -/
theorem op_one {r : List Vl} {h h0 : Hd} {k0 : Fo} (hk : h.k = 3) (hn : h.n = 3 ∨ h.n = 15 ∨ h.n = 16 ∨ h.n = 17) (f : Nat) (e0 : EvAt f r h0 k0) : OpAt (f + 1) r h (.cons h0 k0 .nil) := by
  obtain ⟨q, hq⟩ := fuel3
  unfold OpAt OpIs
  rw [Sp.calc_op]
  unfold Sp.B_calc_op
  obtain ⟨v, is, i1, i2, i3⟩ := e0
  rw [decide_eq_false (show ¬ h.n = 2 by omega), decide_eq_false (show ¬ h.n = 1 by omega), hq]
  have hl : Int.ofNat (Fo.cons h0 k0 .nil).enc.length = 1 := rfl
  have r0 := fun K0 K1 γ K => op_round (A := K0) (B := K1) (T := .cons h0 k0 .nil) (i := 0) rfl i3 (q + 2) 1 (by omega) (by omega) false [] (by simp) h.k h.n h.vk h.vn (mk h.vs) (mk h.tab) (mk h.col) (Fo.cons h0 k0 .nil).enc 0 0 (bs []) γ K
  have r1 := fun K0 K1 γ K => op_end (A := K0) (B := K1) (E := Sp.calc_eval f) (r.map Vl.enc) (Fo.cons h0 k0 .nil).enc (q + 1) 1 ((0 + 1 : Nat) : Int) (by omega) false ([] ++ [v]) h.k h.n h.vk h.vn (mk h.vs) (mk h.tab) (mk h.col) (Fo.cons h0 k0 .nil).enc 0 0 (bs []) γ K
  rw [hl]
  simp only [cond_false]
  cases is with
  | false => exact ⟨⟨0, 0, bs []⟩, false, fun h _ => (by cases h), fun hr => i2 (risk_1 hr).2, fun γ K => (r0 _ _ γ _).trans rfl⟩
  | true =>
    have fin : ∀ γ K, _ = _ := fun γ K => (r0 (Sp.calc_logic f) (Sp.calc_op f) γ K).trans ((cond_true _ _).trans (r1 _ _ γ K))
    have sz : sized (([] ++ [v]).map Vl.enc) 3 = true := sized_vl _
    have el : ∀ (γ : Type) (F : List Dat → Option γ), elemAt (([] ++ [v]).map Vl.enc) 0 F = F v.enc := fun γ F => elemAt_enc (i := 0) (l := [v]) rfl F
    rcases hn with hn | hn | hn | hn
    · obtain ⟨t, ht⟩ := Not_ex (tru v)
      obtain ⟨w, w1, w2⟩ := Of_ex t
      refine ⟨w, true, fun _ _ => w1, fun _ => rfl, fun γ K => (fin γ _).trans ?_⟩
      rw [sz, cond_true, isEx, cond_true, decide_eq_true hn, cond_true, el]
      show Sp.value_Truth v.k v.n v.s γ (fun z41 => Sp.value_Not z41 γ fun z42 => Sp.value_Of z42 γ fun z43 z44 z45 => K z43 z44 z45 true) = _
      rw [Truth_eq, ht, w2]
    · obtain ⟨w, is, w1, w2⟩ := numbers_ex h.n [v] (.inl rfl)
      refine ⟨w, is, fun h _ => w1 h, fun hr => (by have := (risk_1 hr).1; rw [bad_op hk ⟨by omega, by omega⟩] at this; cases this), fun γ K => (fin γ _).trans ?_⟩
      rw [sz, cond_true, isEx, cond_true, decide_eq_false (show ¬ h.n = 3 by omega), decide_eq_false (show ¬ h.n = 16 by omega), decide_eq_false (show ¬ h.n = 17 by omega), decide_eq_false (show ¬ h.n ≤ 9 by omega)]
      exact w2 γ _
    · obtain ⟨w, w1, w2⟩ := Bool_ex (decide (v.k = 0) == true)
      refine ⟨w, true, fun _ _ => w1, fun _ => rfl, fun γ K => (fin γ _).trans ?_⟩
      rw [sz, cond_true, isEx, cond_true, decide_eq_false (show ¬ h.n = 3 by omega), cond_false, decide_eq_true hn, cond_true, el]
      show Sp.value_Bool (decide (v.k = 0) == true) γ (fun a b c => K a b c true) = _
      rw [w2]
    · obtain ⟨w, w1, w2⟩ := Bool_ex (decide (v.k = 0) == false)
      refine ⟨w, true, fun _ _ => w1, fun _ => rfl, fun γ K => (fin γ _).trans ?_⟩
      rw [sz, cond_true, isEx, cond_true, decide_eq_false (show ¬ h.n = 3 by omega), cond_false, decide_eq_false (show ¬ h.n = 16 by omega), cond_false, decide_eq_true hn, cond_true, el]
      show Sp.value_Bool (decide (v.k = 0) == false) γ (fun a b c => K a b c true) = _
      rw [w2]

/-- an operator of two parts -/
theorem op_two {r : List Vl} {h h0 h1 : Hd} {k0 k1 : Fo} (hk : h.k = 3) (hn : 1 ≤ h.n ∧ h.n < 15 ∧ h.n ≠ 3) (f : Nat) (e0 : EvAt f r h0 k0) (e1 : EvAt f r h1 k1) (d0 : EvAt (f + 1) r h0 k0) (d1 : EvAt (f + 1) r h1 k1) : OpAt (f + 2) r h (.cons h0 k0 (.cons h1 k1 .nil)) := by
  obtain ⟨q, hq⟩ := fuel3
  unfold OpAt OpIs
  rw [Sp.calc_op]
  unfold Sp.B_calc_op
  by_cases hlg : h.n = 2 ∨ h.n = 1
  · have hL : ∃ (v : Vl) (is : Bool), (is = true → r.all Vl.ok = true → v.ok = true) ∧ (risk h (.cons h0 k0 (.cons h1 k1 .nil)) = false → is = true) ∧ ∀ (γ : Type) (K : Int → Int → ByteArray → Bool → Option γ), Sp.calc_logic (f + 1) h.k h.n h.vk h.vn (mk h.vs) (mk h.tab) (mk h.col) (Fo.cons h0 k0 (.cons h1 k1 .nil)).enc (r.map Vl.enc) γ K = K v.k v.n v.s is := by
      rw [Sp.calc_logic]
      unfold Sp.B_calc_logic
      obtain ⟨v, is, i1, i2, i3⟩ := e0
      obtain ⟨w, iw, j1, j2, j3⟩ := e1
      have i3' := i3
      have j3' := j3
      unfold EvIs at i3' j3'
      rcases hlg with hn2 | hn1
      · rw [decide_eq_false (show ¬ h.n = 1 by omega)]
        simp only [cond_false]
        cases is with
        | false =>
          obtain ⟨o, o1, o2⟩ := Of_ex 0
          exact ⟨o, false, fun h _ => (by cases h), fun hr => i2 (risk_2 hr).2.1, fun γ K => by rw [elem0, i3', Bool.not_false, cond_true, o2]⟩
        | true =>
          by_cases ht : tru v = 0
          · obtain ⟨o, o1, o2⟩ := Of_ex 0
            exact ⟨o, true, fun _ _ => o1, fun _ => rfl, fun γ K => by rw [elem0, i3', Bool.not_true, cond_false, Truth_eq, decide_eq_true ht, cond_true, o2]⟩
          · obtain ⟨t, ht2⟩ := And_ex (tru v) (tru w)
            obtain ⟨o, o1, o2⟩ := Of_ex t
            exact ⟨o, iw, fun _ _ => o1, fun hr => j2 (risk_2 hr).2.2, fun γ K => by rw [elem0, i3', Bool.not_true, cond_false, Truth_eq, decide_eq_false ht, cond_false, elem1, j3', Truth_eq, Truth_eq, ht2, o2]⟩
      · rw [decide_eq_true hn1]
        simp only [cond_true]
        cases is with
        | false =>
          obtain ⟨o, o1, o2⟩ := Of_ex 1
          exact ⟨o, false, fun h _ => (by cases h), fun hr => i2 (risk_2 hr).2.1, fun γ K => by rw [elem0, i3', Bool.not_false, cond_true, o2]⟩
        | true =>
          by_cases ht : tru v = 1
          · obtain ⟨o, o1, o2⟩ := Of_ex 1
            exact ⟨o, true, fun _ _ => o1, fun _ => rfl, fun γ K => by rw [elem0, i3', Bool.not_true, cond_false, Truth_eq, decide_eq_true ht, cond_true, o2]⟩
          · obtain ⟨t, ht2⟩ := Or_ex (tru v) (tru w)
            obtain ⟨o, o1, o2⟩ := Of_ex t
            exact ⟨o, iw, fun _ _ => o1, fun hr => j2 (risk_2 hr).2.2, fun γ K => by rw [elem0, i3', Bool.not_true, cond_false, Truth_eq, decide_eq_false ht, cond_false, elem1, j3', Truth_eq, Truth_eq, ht2, o2]⟩
    obtain ⟨v, is, v1, v2, v3⟩ := hL
    refine ⟨v, is, v1, v2, fun γ K => ?_⟩
    by_cases h2 : h.n = 2
    · rw [decide_eq_true h2, cond_true, v3]
    · rw [decide_eq_false h2, cond_false, decide_eq_true (show h.n = 1 by omega), cond_true, v3]
  · rw [decide_eq_false (show ¬ h.n = 2 by omega), decide_eq_false (show ¬ h.n = 1 by omega), hq]
    obtain ⟨v, is, i1, i2, i3⟩ := d0
    obtain ⟨w, iw, j1, j2, j3⟩ := d1
    have hl : Int.ofNat (Fo.cons h0 k0 (.cons h1 k1 .nil)).enc.length = 2 := rfl
    have r0 := fun K0 K1 γ K => op_round (A := K0) (B := K1) (T := .cons h0 k0 (.cons h1 k1 .nil)) (i := 0) rfl i3 (q + 2) 2 (by omega) (by omega) false [] (by simp) h.k h.n h.vk h.vn (mk h.vs) (mk h.tab) (mk h.col) (Fo.cons h0 k0 (.cons h1 k1 .nil)).enc 0 0 (bs []) γ K
    have r1 := fun K0 K1 γ K => op_round (A := K0) (B := K1) (T := .cons h0 k0 (.cons h1 k1 .nil)) (i := 0 + 1) rfl j3 (q + 1) 2 (by omega) (by omega) false ([] ++ [v]) (by simp) h.k h.n h.vk h.vn (mk h.vs) (mk h.tab) (mk h.col) (Fo.cons h0 k0 (.cons h1 k1 .nil)).enc 0 0 (bs []) γ K
    have r2 := fun K0 K1 γ K => op_end (A := K0) (B := K1) (E := Sp.calc_eval (f + 1)) (r.map Vl.enc) (Fo.cons h0 k0 (.cons h1 k1 .nil)).enc q 2 ((0 + 1 + 1 : Nat) : Int) (by omega) false ([] ++ [v] ++ [w]) h.k h.n h.vk h.vn (mk h.vs) (mk h.tab) (mk h.col) (Fo.cons h0 k0 (.cons h1 k1 .nil)).enc 0 0 (bs []) γ K
    rw [hl]
    simp only [cond_false]
    cases is with
    | false => exact ⟨⟨0, 0, bs []⟩, false, fun h _ => (by cases h), fun hr => i2 (risk_2 hr).2.1, fun γ K => (r0 _ _ γ _).trans rfl⟩
    | true =>
    cases iw with
    | false => exact ⟨⟨0, 0, bs []⟩, false, fun h _ => (by cases h), fun hr => j2 (risk_2 hr).2.2, fun γ K => (r0 _ _ γ _).trans ((cond_true _ _).trans ((r1 _ _ γ _).trans rfl))⟩
    | true =>
    have fin : ∀ γ K, _ = _ := fun γ K => (r0 (Sp.calc_logic (f + 1)) (Sp.calc_op (f + 1)) γ K).trans ((cond_true _ _).trans ((r1 _ _ γ K).trans ((cond_true _ _).trans (r2 _ _ γ K))))
    have sz : sized (([] ++ [v] ++ [w]).map Vl.enc) 3 = true := sized_vl _
    have el : ∀ (γ : Type) (F : List Dat → Option γ), elemAt (([] ++ [v] ++ [w]).map Vl.enc) 0 F = F v.enc := fun γ F => elemAt_enc (i := 0) (l := [v, w]) rfl F
    have el1 : ∀ (γ : Type) (F : List Dat → Option γ), elemAt (([] ++ [v] ++ [w]).map Vl.enc) 1 F = F w.enc := fun γ F => elemAt_enc (i := 1) (l := [v, w]) rfl F
    by_cases h9 : h.n ≤ 9
    · obtain ⟨t, ht⟩ := compare_ex h.n v w
      obtain ⟨o, o1, o2⟩ := Of_ex t
      refine ⟨o, true, fun _ _ => o1, fun _ => rfl, fun γ K => (fin γ _).trans ?_⟩
      rw [sz, cond_true, isEx, cond_true, decide_eq_false (show ¬ h.n = 3 by omega), decide_eq_false (show ¬ h.n = 16 by omega), decide_eq_false (show ¬ h.n = 17 by omega), decide_eq_true h9]
      simp only [cond_false, cond_true]
      rw [el]
      show (elemAt (([] ++ [v] ++ [w]).map Vl.enc) 1 fun z65 => bif List.length z65 == 3 then cellAt z65 0 fun z66 => Aev.asInt IntKind.i64 z66 fun z67 => cellAt z65 1 fun z68 => Aev.asInt IntKind.i64 z68 fun z69 => cellAt z65 2 fun z70 => asStr z70 fun z71 => Sp.calc_compare h.n v.k v.n v.s z67 z69 z71 γ fun z72 => Sp.value_Of z72 γ fun z73 z74 z75 => K z73 z74 z75 true else none) = _
      rw [el1, vl_cells w fun a b c => Sp.calc_compare h.n v.k v.n v.s a b c γ fun z72 => Sp.value_Of z72 γ fun z73 z74 z75 => K z73 z74 z75 true, ht, o2]
    · obtain ⟨o, io, o1, o2⟩ := numbers_ex h.n [v, w] (.inr rfl)
      refine ⟨o, io, fun h _ => o1 h, fun hr => (by have := (risk_2 hr).1; rw [bad_op hk ⟨by omega, by omega⟩] at this; cases this), fun γ K => (fin γ _).trans ?_⟩
      rw [sz, cond_true, isEx, cond_true, decide_eq_false (show ¬ h.n = 3 by omega), decide_eq_false (show ¬ h.n = 16 by omega), decide_eq_false (show ¬ h.n = 17 by omega), decide_eq_false h9]
      exact o2 γ _

theorem ev_E {r : List Vl} {ks : Fo} (ih : EvL r ks) (h : Hd) (hm : may h ks.len = true) (f : Nat) (hf : 3 * ks.deep + 6 ≤ f) (hr0 : r.length ≤ 4611686018427387904) : EvAt f r h ks := by
  obtain ⟨f, rfl⟩ : ∃ g, f = g + 3 := ⟨f - 3, by omega⟩
  unfold EvAt EvIs
  rw [Sp.calc_eval]
  unfold Sp.B_calc_eval
  by_cases h1 : h.k = 1
  · have hok : V.ok h.vk h.vn (mk h.vs) = true := by
      unfold may at hm
      rw [if_pos h1, Bool.and_eq_true] at hm
      exact hm.1
    exact ⟨⟨h.vk, h.vn, mk h.vs⟩, true, fun _ _ => hok, fun _ => rfl, fun γ K => by rw [decide_eq_true h1]; rfl⟩
  rw [decide_eq_false h1]
  by_cases h3 : h.k = 3
  · rw [decide_eq_true h3]
    simp only [cond_true, cond_false]
    rcases may_op h3 hm with ⟨hlen, hn⟩ | ⟨hlen, hn1, hn2, hn3⟩
    · obtain ⟨h0, k0, rfl⟩ := len_one hlen
      obtain ⟨i0, _⟩ := ih
      simp only [Fo.deep] at hf
      exact op_one h3 hn (f + 1) (i0 (f + 1) (by omega))
    · obtain ⟨h0, k0, h4, k4, rfl⟩ := len_two hlen
      obtain ⟨i0, j0, _⟩ := ih
      simp only [Fo.deep] at hf
      exact op_two h3 ⟨hn1, hn2, hn3⟩ f (i0 f (by omega)) (j0 f (by omega)) (i0 (f + 1) (by omega)) (j0 (f + 1) (by omega))
  · rw [decide_eq_false h3]
    simp only [cond_false]
    have hn : 0 ≤ h.n := by
      rcases may_kind hm with hk | hk | hk | hk
      · exact absurd hk h1
      · unfold may at hm
        rw [if_neg h1, if_pos hk] at hm
        simp only [Bool.and_eq_true, decide_eq_true_eq] at hm
        exact hm.2.2.1
      · exact absurd hk h3
      · rcases may_agg hk hm with ⟨_, hn⟩ | ⟨_, hn, _⟩ <;> omega
    rw [List.length_map]
    obtain ⟨i, hi⟩ : ∃ i : Nat, h.n = i := ⟨h.n.toNat, by omega⟩
    by_cases hlt : i < r.length
    · obtain ⟨v, hv, _⟩ := dropv_cons hlt
      refine ⟨v, true, fun _ hall => (List.all_eq_true.1 hall) v (List.mem_of_getElem? hv), fun _ => rfl, fun γ K => ?_⟩
      rw [hi, decide_eq_true (show (i : Int) < Int.ofNat r.length by simp only [Int.ofNat_eq_natCast]; omega), cond_true, elemAt_enc hv]
      rfl
    · refine ⟨⟨0, 0, bs []⟩, true, fun _ _ => rfl, fun _ => rfl, fun γ K => ?_⟩
      rw [hi, decide_eq_false (show ¬ (i : Int) < Int.ofNat r.length by simp only [Int.ofNat_eq_natCast]; omega)]
      rfl
theorem ev_L (r : List Vl) (hr0 : r.length ≤ 4611686018427387904) : ∀ F : Fo, wfL F = true → EvL r F
  | .nil, _ => trivial
  | .cons h ks t, hw => by
    simp only [wfL, Bool.and_eq_true] at hw
    exact ⟨fun f hf => ev_E (ev_L r hr0 ks hw.2.1) h hw.1 f hf hr0, ev_L r hr0 t hw.2.2⟩

end Go.Proofs.YtebfhpjnbmdcoaaGreatDoor

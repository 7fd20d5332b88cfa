/- Values: truths, comparisons, numbers. -/
import Derived.Test.YtebfhpjnbmdcoaaGreatDoorK4
set_option linter.unusedVariables false
set_option linter.unusedSimpArgs false
namespace Go.Proofs.YtebfhpjnbmdcoaaGreatDoor
open Go Go.Aev Go.RowKit Go.Sort

theorem cmp_Compare_int_eq (a b : Int) (γ : Type) (K : Int → Option γ) : Sp.cmp_Compare_int a b γ K = K (V.ci a b) := by
  unfold Sp.cmp_Compare_int Sp.B_cmp_Compare_int Sp.cmp_isNaN_int Sp.B_cmp_isNaN_int V.ci
  by_cases h1 : a < b <;> by_cases h2 : b < a <;> simp [h1, h2]
theorem cmp_Compare_string_eq (a b : ByteArray) (γ : Type) (K : Int → Option γ) : Sp.cmp_Compare_string a b γ K = K (V.cs a b) := by
  unfold Sp.cmp_Compare_string Sp.B_cmp_Compare_string Sp.cmp_isNaN_string Sp.B_cmp_isNaN_string V.cs
  rw [show Op.bytesLess a.data.toList b.data.toList = decide (a.data.toList < b.data.toList) from bytesLess_eq _ _]
  by_cases h2 : a = b
  · subst h2
    simp [List.lt_irrefl]
  · by_cases h1 : a.data.toList < b.data.toList <;> simp [h1, h2]
theorem cmp_Or_three (a b c : Int) (γ : Type) (K : Int → Option γ) : Sp.cmp_Or_int [[.int .i64 a], [.int .i64 b], [.int .i64 c]] γ K = K (if a = 0 then (if b = 0 then c else b) else a) := by
  have h : Sp.cmp_Or_int [[.int .i64 a], [.int .i64 b], [.int .i64 c]] γ K = cond (!decide (a = 0)) (K a) (cond (!decide (b = 0)) (K b) (cond (!decide (c = 0)) (K c) (K 0))) := by kernel_rfl
  rw [h]
  by_cases h1 : a = 0 <;> by_cases h2 : b = 0 <;> by_cases h3 : c = 0 <;> simp [h1, h2, h3]
theorem value_Compare_eq (k n : Int) (s : ByteArray) (k' n' : Int) (s' : ByteArray) (γ : Type) (K : Int → Option γ) : Sp.value_Compare k n s k' n' s' γ K = K (V.cmp k n s k' n' s') := by
  unfold Sp.value_Compare Sp.B_value_Compare V.cmp
  rw [cmp_Compare_int_eq, cmp_Compare_int_eq, cmp_Compare_string_eq, cmp_Or_three]
theorem value_known_eq (k n : Int) (s : ByteArray) (k' n' : Int) (s' : ByteArray) (γ : Type) (K : Bool → Option γ) : Sp.value_known k n s k' n' s' γ K = K (V.known k n s k' n' s') := by
  unfold Sp.value_known Sp.B_value_known V.known
  simp only [value_Check_eq]
  by_cases h1 : k = 0 <;> by_cases h2 : k' = 0 <;> cases h3 : V.ok k n s <;> cases h4 : V.ok k' n' s' <;> simp [h1, h2]
theorem value_truth_eq (b : Bool) (γ : Type) (K : Int → Option γ) : Sp.value_truth b γ K = K (V.truth b) := by cases b <;> rfl
theorem value_Equal_eq (k n : Int) (s : ByteArray) (k' n' : Int) (s' : ByteArray) (γ : Type) (K : Int → Option γ) : Sp.value_Equal k n s k' n' s' γ K = K (V.equal k n s k' n' s') := by
  unfold Sp.value_Equal Sp.B_value_Equal V.equal
  simp only [value_known_eq, value_truth_eq]
  cases V.known k n s k' n' s' <;> rfl
theorem value_Less_eq (k n : Int) (s : ByteArray) (k' n' : Int) (s' : ByteArray) (γ : Type) (K : Int → Option γ) : Sp.value_Less k n s k' n' s' γ K = K (V.less k n s k' n' s') := by
  unfold Sp.value_Less Sp.B_value_Less V.less
  simp only [value_known_eq, value_truth_eq, value_Compare_eq]
  cases V.known k n s k' n' s'
  · rfl
  · by_cases h : k = k' <;> simp [h]
theorem value_Truth_eq (k n : Int) (s : ByteArray) (γ : Type) (K : Int → Option γ) : Sp.value_Truth k n s γ K = K (V.tru k n s) := by
  unfold Sp.value_Truth Sp.B_value_Truth V.tru
  simp only [value_Check_eq]
  by_cases h : k = 1 <;> cases V.ok k n s <;> simp [h]
theorem near_cases (a : Int) : ∃ t : Int, (t = 0 ∨ t = 1 ∨ t = 2) ∧ ∀ (γ : Type) (K : Int → Option γ), Sp.value_near a γ K = K t := by
  unfold Sp.value_near Sp.B_value_near
  by_cases h1 : a < 0
  · exact ⟨2, .inr (.inr rfl), fun γ K => by rw [decide_eq_true h1]; rfl⟩
  by_cases h2 : 2 < a
  · exact ⟨2, .inr (.inr rfl), fun γ K => by rw [decide_eq_false h1, decide_eq_true h2]; rfl⟩
  · exact ⟨a, by omega, fun γ K => by rw [decide_eq_false h1, decide_eq_false h2]; rfl⟩
theorem Not_ex (a : Int) : ∃ t : Int, ∀ (γ : Type) (K : Int → Option γ), Sp.value_Not a γ K = K t := by
  obtain ⟨t, ht, h⟩ := near_cases a
  unfold Sp.value_Not Sp.B_value_Not
  rcases ht with rfl | rfl | rfl
  · exact ⟨1, fun γ K => by rw [h]; rfl⟩
  · exact ⟨0, fun γ K => by rw [h]; rfl⟩
  · exact ⟨2, fun γ K => by rw [h]; rfl⟩
theorem And_ex (a b : Int) : ∃ t : Int, ∀ (γ : Type) (K : Int → Option γ), Sp.value_And a b γ K = K t := by
  obtain ⟨t, ht, h⟩ := near_cases a
  obtain ⟨u, hu, g⟩ := near_cases b
  unfold Sp.value_And Sp.B_value_And
  rcases ht with rfl | rfl | rfl <;> rcases hu with rfl | rfl | rfl
  · exact ⟨0, fun γ K => by rw [h, g]; rfl⟩
  · exact ⟨0, fun γ K => by rw [h, g]; rfl⟩
  · exact ⟨0, fun γ K => by rw [h, g]; rfl⟩
  · exact ⟨0, fun γ K => by rw [h, g]; rfl⟩
  · exact ⟨1, fun γ K => by rw [h, g]; rfl⟩
  · exact ⟨2, fun γ K => by rw [h, g]; rfl⟩
  · exact ⟨0, fun γ K => by rw [h, g]; rfl⟩
  · exact ⟨2, fun γ K => by rw [h, g]; rfl⟩
  · exact ⟨2, fun γ K => by rw [h, g]; rfl⟩
theorem Or_ex (a b : Int) : ∃ t : Int, ∀ (γ : Type) (K : Int → Option γ), Sp.value_Or a b γ K = K t := by
  obtain ⟨t, ht⟩ := Not_ex a
  obtain ⟨u, hu⟩ := Not_ex b
  obtain ⟨v, hv⟩ := And_ex t u
  obtain ⟨w, hw⟩ := Not_ex v
  unfold Sp.value_Or Sp.B_value_Or
  exact ⟨w, fun γ K => by rw [ht, hu, hv, hw]⟩
theorem Of_ex (t : Int) : ∃ v : Vl, v.ok = true ∧ ∀ (γ : Type) (K : Int → Int → ByteArray → Option γ), Sp.value_Of t γ K = K v.k v.n v.s := by
  obtain ⟨u, hu, h⟩ := near_cases t
  unfold Sp.value_Of Sp.B_value_Of
  by_cases h2 : u = 2
  · exact ⟨⟨0, 0, bs []⟩, rfl, fun γ K => by rw [h, decide_eq_true h2]; rfl⟩
  · cases ht : decide (t = 1) with
    | true => exact ⟨⟨1, 1, bs []⟩, rfl, fun γ K => by rw [h, decide_eq_false h2]; rfl⟩
    | false => exact ⟨⟨1, 0, bs []⟩, rfl, fun γ K => by rw [h, decide_eq_false h2]; rfl⟩
theorem Bool_ex (b : Bool) : ∃ v : Vl, v.ok = true ∧ ∀ (γ : Type) (K : Int → Int → ByteArray → Option γ), Sp.value_Bool b γ K = K v.k v.n v.s := by
  cases b
  · exact ⟨⟨1, 0, bs []⟩, rfl, fun γ K => rfl⟩
  · exact ⟨⟨1, 1, bs []⟩, rfl, fun γ K => rfl⟩
theorem compare_ex (op : Int) (a b : Vl) : ∃ t : Int, ∀ (γ : Type) (K : Int → Option γ), Sp.calc_compare op a.k a.n a.s b.k b.n b.s γ K = K t := by
  unfold Sp.calc_compare Sp.B_calc_compare
  simp only [value_Equal_eq, value_Less_eq]
  obtain ⟨x1, h1⟩ := Not_ex (V.equal a.k a.n a.s b.k b.n b.s)
  obtain ⟨x2, h2⟩ := Not_ex (V.less b.k b.n b.s a.k a.n a.s)
  obtain ⟨x3, h3⟩ := Not_ex (V.less a.k a.n a.s b.k b.n b.s)
  simp only [h1, h2, h3]
  cases decide (op = 4) with
  | true => exact ⟨_, fun γ K => rfl⟩
  | false =>
  cases decide (op = 5) with
  | true => exact ⟨_, fun γ K => rfl⟩
  | false =>
  cases decide (op = 6) with
  | true => exact ⟨_, fun γ K => rfl⟩
  | false =>
  cases decide (op = 8) with
  | true => exact ⟨_, fun γ K => rfl⟩
  | false =>
  cases decide (op = 7) with
  | true => exact ⟨_, fun γ K => rfl⟩
  | false => exact ⟨_, fun γ K => rfl⟩

/-! ### numbers -/
/-- a number that a value may have -/
def inM (n : Int) : Prop := -9007199254740991 ≤ n ∧ n ≤ 9007199254740991
theorem within_eq (n : Int) (γ : Type) (K : Bool → Option γ) : Sp.calc_within n γ K = K (decide (-9007199254740991 ≤ n) && decide (n ≤ 9007199254740991)) := by
  unfold Sp.calc_within Sp.B_calc_within
  cases decide (-9007199254740991 ≤ n) <;> rfl
theorem size_eq (n : Int) (h : inM n) (γ : Type) (K : Int → Option γ) : Sp.calc_size n γ K = K (n.natAbs : Int) := by
  unfold Sp.calc_size Sp.B_calc_size
  have := h.1
  have := h.2
  rw [wrap_i64 (by omega), show max n (0 - n) = (n.natAbs : Int) by omega]
theorem fits_ex (a b : Int) (ha : inM a) (hb : inM b) : ∃ is : Bool, (is = true → inM (a * b)) ∧ ∀ (γ : Type) (K : Bool → Option γ), Sp.calc_fits a b γ K = K is := by
  unfold Sp.calc_fits Sp.B_calc_fits
  by_cases h0 : a = 0
  · subst h0
    exact ⟨true, fun _ => by rw [Int.zero_mul]; exact ⟨by decide, by decide⟩, fun γ K => rfl⟩
  · have hpos : 0 < a.natAbs := by omega
    obtain ⟨c, hc⟩ : ∃ c : Nat, c = 9007199254740991 / a.natAbs := ⟨_, rfl⟩
    have hdiv : Int.tdiv 9007199254740991 (a.natAbs : Int) = (c : Int) := by rw [hc]; rfl
    have hle : c ≤ 9007199254740991 := by rw [hc]; exact Nat.div_le_self _ _
    refine ⟨decide ((b.natAbs : Int) ≤ (c : Int)), fun h => ?_, fun γ K => ?_⟩
    · have h := of_decide_eq_true h
      have h : b.natAbs ≤ 9007199254740991 / a.natAbs := by rw [← hc]; omega
      have h := (Nat.le_div_iff_mul_le hpos).1 h
      have e : (a * b).natAbs = b.natAbs * a.natAbs := by rw [Int.natAbs_mul, Nat.mul_comm]
      rw [← e] at h
      unfold inM
      omega
    · rw [decide_eq_false h0, cond_false, size_eq b hb, size_eq a ha, decide_eq_false (show ¬ (a.natAbs : Int) = 0 by omega), hdiv, wrap_i64 (by omega)]
      rfl
theorem tdiv_in {a : Int} (b : Int) (ha : inM a) : inM (Int.tdiv a b) := by
  have e : (Int.tdiv a b).natAbs = a.natAbs / b.natAbs := Int.natAbs_tdiv a b
  have h := Nat.div_le_self a.natAbs b.natAbs
  obtain ⟨h1, h2⟩ := ha
  unfold inM
  omega
theorem tmod_in {a : Int} (b : Int) (ha : inM a) : inM (Int.tmod a b) := by
  have e : (Int.tmod a b).natAbs = a.natAbs % b.natAbs := Int.natAbs_tmod a b
  have h := Nat.mod_le a.natAbs b.natAbs
  obtain ⟨h1, h2⟩ := ha
  unfold inM
  omega
theorem arith_ex (op a b : Int) (ha : inM a) (hb : inM b) : ∃ (n : Int) (is : Bool), (is = true → inM n) ∧ ∀ (γ : Type) (K : Int → Bool → Option γ), Sp.calc_arith op a b γ K = K n is := by
  unfold Sp.calc_arith Sp.B_calc_arith
  have hw : ∀ n : Int, (decide (-9007199254740991 ≤ n) && decide (n ≤ 9007199254740991)) = true → inM n := fun n h => by
    simp only [Bool.and_eq_true, decide_eq_true_eq] at h
    exact h
  simp only [within_eq]
  cases decide (op = 10) with
  | true => exact ⟨_, _, hw _, fun γ K => rfl⟩
  | false =>
  cases decide (op = 11) with
  | true => exact ⟨_, _, hw _, fun γ K => rfl⟩
  | false =>
  cases decide (op = 12) with
  | true =>
    obtain ⟨is, h1, h2⟩ := fits_ex a b ha hb
    simp only [cond_true, cond_false, h2]
    cases is with
    | false => exact ⟨0, false, fun h => (by cases h), fun γ K => rfl⟩
    | true =>
      have h1 := h1 rfl
      have h3 : IntKind.wrap .i64 (a * b) = a * b := by
        have := h1.1
        have := h1.2
        rw [wrap_i64 (by omega)]
      exact ⟨a * b, true, fun _ => h1, fun γ K => by rw [h3]; rfl⟩
  | false =>
  cases decide (op = 15) with
  | true =>
    have h3 : IntKind.wrap .i64 (0 - a) = -a := by
      have := ha.1
      have := ha.2
      rw [wrap_i64 (by omega)]
      omega
    exact ⟨-a, true, fun _ => ⟨by have := ha.2; omega, by have := ha.1; omega⟩, fun γ K => by rw [h3]; rfl⟩
  | false =>
  by_cases hz : b = 0
  · exact ⟨0, false, fun h => (by cases h), fun γ K => by rw [decide_eq_true hz]; rfl⟩
  · have hd := tdiv_in b ha
    have hm := tmod_in b ha
    have h3 : IntKind.wrap .i64 (Int.tdiv a b) = Int.tdiv a b := by
      have := hd.1
      have := hd.2
      rw [wrap_i64 (by omega)]
    rw [decide_eq_false hz, h3]
    cases decide (op = 13) with
    | true => exact ⟨_, true, fun _ => hd, fun γ K => rfl⟩
    | false => exact ⟨_, true, fun _ => hm, fun γ K => rfl⟩

/-- a value with which no number can be made -/
def badN (v : Vl) : Bool := (!decide (v.k = 2) && !decide (v.k = 0)) || !v.ok
theorem numbers_0 (op : Int) (l : List Vl) (v : Vl) (hv : l[0]? = some v) (q : Nat) (len : Int) (hl : (0 : Int) < len) (a nul : Bool) (b0 b1 : Int) (b2 : ByteArray) (c0 c1 : Int) (γ : Type) (K : Ex → Bool → Bool → Int → Int → Int → ByteArray → Int → Int → Option γ) :
    Sp.calc_numbers_L0 (q + 1) op (l.map Vl.enc) len a nul 0 b0 b1 b2 c0 c1 γ K = cond (badN v) (K Ex.ret false (nul || decide (v.k = 0)) 0 0 0 (bs []) c0 c1) (Sp.calc_numbers_L0 q op (l.map Vl.enc) len a (nul || decide (v.k = 0)) 1 b0 b1 b2 v.n c1 γ K) := by
  rw [Sp.calc_numbers_L0]
  unfold Sp.B_calc_numbers_L0
  have he : (l.map Vl.enc)[0]? = some v.enc := by rw [List.getElem?_map, hv]; rfl
  have hw : IntKind.wrap .i64 ((0 : Int) + 1) = 1 := by rw [wrap_i64 (by omega)]; rfl
  have e0 : ∀ F : List Dat → Option γ, elemAt (l.map Vl.enc) (0 : Int) F = F v.enc := fun F => elemAt_some (i := 0) he F
  rw [decide_eq_true hl, cond_true, e0, hw]
  show (bif nul then bif !decide (v.k = 2) then bif !decide (v.k = 0) then _ else Sp.value_Check v.k v.n v.s γ _ else Sp.value_Check v.k v.n v.s γ _ else bif !decide (v.k = 2) then bif !decide (v.k = 0) then _ else Sp.value_Check v.k v.n v.s γ _ else Sp.value_Check v.k v.n v.s γ _) = _
  simp only [value_Check_eq]
  unfold badN
  show _ = cond ((!decide (v.k = 2) && !decide (v.k = 0)) || !(V.ok v.k v.n v.s)) _ _
  cases nul <;> cases decide (v.k = 2) <;> cases decide (v.k = 0) <;> cases V.ok v.k v.n v.s <;> rfl
theorem numbers_1 (op : Int) (l : List Vl) (v : Vl) (hv : l[1]? = some v) (q : Nat) (len : Int) (hl : (1 : Int) < len) (a nul : Bool) (b0 b1 : Int) (b2 : ByteArray) (c0 c1 : Int) (γ : Type) (K : Ex → Bool → Bool → Int → Int → Int → ByteArray → Int → Int → Option γ) :
    Sp.calc_numbers_L0 (q + 1) op (l.map Vl.enc) len a nul 1 b0 b1 b2 c0 c1 γ K = cond (badN v) (K Ex.ret false (nul || decide (v.k = 0)) 1 0 0 (bs []) c0 c1) (Sp.calc_numbers_L0 q op (l.map Vl.enc) len a (nul || decide (v.k = 0)) 2 b0 b1 b2 c0 v.n γ K) := by
  rw [Sp.calc_numbers_L0]
  unfold Sp.B_calc_numbers_L0
  have he : (l.map Vl.enc)[1]? = some v.enc := by rw [List.getElem?_map, hv]; rfl
  have hw : IntKind.wrap .i64 ((1 : Int) + 1) = 2 := by rw [wrap_i64 (by omega)]; rfl
  have e0 : ∀ F : List Dat → Option γ, elemAt (l.map Vl.enc) (1 : Int) F = F v.enc := fun F => elemAt_some (i := 1) he F
  rw [decide_eq_true hl, cond_true, e0, hw]
  show (bif nul then bif !decide (v.k = 2) then bif !decide (v.k = 0) then _ else Sp.value_Check v.k v.n v.s γ _ else Sp.value_Check v.k v.n v.s γ _ else bif !decide (v.k = 2) then bif !decide (v.k = 0) then _ else Sp.value_Check v.k v.n v.s γ _ else Sp.value_Check v.k v.n v.s γ _) = _
  simp only [value_Check_eq]
  unfold badN
  show _ = cond ((!decide (v.k = 2) && !decide (v.k = 0)) || !(V.ok v.k v.n v.s)) _ _
  cases nul <;> cases decide (v.k = 2) <;> cases decide (v.k = 0) <;> cases V.ok v.k v.n v.s <;> rfl
theorem numbers_end (op : Int) (l : List (List Dat)) (q : Nat) (len i : Int) (hl : ¬ i < len) (a nul : Bool) (b0 b1 : Int) (b2 : ByteArray) (c0 c1 : Int) (γ : Type) (K : Ex → Bool → Bool → Int → Int → Int → ByteArray → Int → Int → Option γ) :
    Sp.calc_numbers_L0 (q + 1) op l len a nul i b0 b1 b2 c0 c1 γ K = K (Ex.exit 0) a nul i b0 b1 b2 c0 c1 := by
  rw [Sp.calc_numbers_L0]
  unfold Sp.B_calc_numbers_L0
  rw [decide_eq_false hl]
  rfl
theorem badN_in {v : Vl} (h : badN v = false) (h0 : decide (v.k = 0) = false) : inM v.n := by
  unfold badN Vl.ok V.ok at h
  have h0 := of_decide_eq_false h0
  by_cases h2 : v.k = 2
  · simp [h2] at h
    exact ⟨h.1.1, h.1.2⟩
  · simp [h2, h0] at h
theorem okInt {n : Int} (h : inM n) : (Vl.mk 2 n (bs [])).ok = true := by
  unfold Vl.ok V.ok
  simp [h.1, h.2]
theorem fuel3 : ∃ q, fuel = q + 3 := ⟨fuel - 3, by unfold fuel; rfl⟩
theorem numbers_ex (op : Int) (l : List Vl) (hl : l.length = 1 ∨ l.length = 2) : ∃ (v : Vl) (is : Bool), (is = true → v.ok = true) ∧ ∀ (γ : Type) (K : Int → Int → ByteArray → Bool → Option γ), Sp.calc_numbers op (l.map Vl.enc) γ K = K v.k v.n v.s is := by
  unfold Sp.calc_numbers Sp.B_calc_numbers
  obtain ⟨q, hq⟩ := fuel3
  rw [hq]
  have h0 : inM 0 := ⟨by decide, by decide⟩
  rcases hl with hl | hl
  · obtain ⟨v, rfl⟩ : ∃ v, l = [v] := by
      match l, hl with
      | [v], _ => exact ⟨v, rfl⟩
    have r0 := fun γ K => numbers_0 op [v] v rfl (q + 2) 1 (by omega) false false 0 0 (bs []) 0 0 γ K
    have r1 := fun nul γ K => numbers_end op ([v].map Vl.enc) (q + 1) 1 1 (by omega) false nul 0 0 (bs []) v.n 0 γ K
    cases hb : badN v with
    | true => exact ⟨⟨0, 0, bs []⟩, false, fun h => (by cases h), fun γ K => (r0 γ _).trans (by rw [hb]; rfl)⟩
    | false =>
      cases hz : decide (v.k = 0) with
      | true => exact ⟨⟨0, 0, bs []⟩, true, fun _ => rfl, fun γ K => (r0 γ _).trans (by rw [hb, cond_false, r1, hz]; rfl)⟩
      | false =>
        obtain ⟨n, is, h1, h2⟩ := arith_ex op v.n 0 (badN_in hb hz) h0
        cases is with
        | false => exact ⟨⟨0, 0, bs []⟩, false, fun h => (by cases h), fun γ K => (r0 γ _).trans (by rw [hb, cond_false, r1, hz]; exact (show Sp.calc_arith op v.n 0 γ (fun z16 z17 => bif !z17 then K 0 0 (bs []) false else Sp.value_Int z16 γ fun z18 z19 z20 => K z18 z19 z20 true) = _ from by rw [h2]; rfl))⟩
        | true => exact ⟨⟨2, n, bs []⟩, true, fun _ => okInt (h1 rfl), fun γ K => (r0 γ _).trans (by rw [hb, cond_false, r1, hz]; exact (show Sp.calc_arith op v.n 0 γ (fun z16 z17 => bif !z17 then K 0 0 (bs []) false else Sp.value_Int z16 γ fun z18 z19 z20 => K z18 z19 z20 true) = _ from by rw [h2]; rfl))⟩
  · obtain ⟨v, w, rfl⟩ : ∃ v w, l = [v, w] := by
      match l, hl with
      | [v, w], _ => exact ⟨v, w, rfl⟩
    have r0 := fun γ K => numbers_0 op [v, w] v rfl (q + 2) 2 (by omega) false false 0 0 (bs []) 0 0 γ K
    have r1 := fun nul γ K => numbers_1 op [v, w] w rfl (q + 1) 2 (by omega) false nul 0 0 (bs []) v.n 0 γ K
    have r2 := fun nul γ K => numbers_end op ([v, w].map Vl.enc) q 2 2 (by omega) false nul 0 0 (bs []) v.n w.n γ K
    cases hb : badN v with
    | true => exact ⟨⟨0, 0, bs []⟩, false, fun h => (by cases h), fun γ K => (r0 γ _).trans (by rw [hb]; rfl)⟩
    | false =>
      cases hc : badN w with
      | true => exact ⟨⟨0, 0, bs []⟩, false, fun h => (by cases h), fun γ K => (r0 γ _).trans (by rw [hb, cond_false, r1, hc]; rfl)⟩
      | false =>
      cases hz : decide (v.k = 0) with
      | true => exact ⟨⟨0, 0, bs []⟩, true, fun _ => rfl, fun γ K => (r0 γ _).trans (by rw [hb, cond_false, r1, hc, cond_false, r2, hz]; rfl)⟩
      | false =>
      cases hy : decide (w.k = 0) with
      | true => exact ⟨⟨0, 0, bs []⟩, true, fun _ => rfl, fun γ K => (r0 γ _).trans (by rw [hb, cond_false, r1, hc, cond_false, r2, hz, hy]; rfl)⟩
      | false =>
        obtain ⟨n, is, h1, h2⟩ := arith_ex op v.n w.n (badN_in hb hz) (badN_in hc hy)
        cases is with
        | false => exact ⟨⟨0, 0, bs []⟩, false, fun h => (by cases h), fun γ K => (r0 γ _).trans (by rw [hb, cond_false, r1, hc, cond_false, r2, hz, hy]; exact (show Sp.calc_arith op v.n w.n γ (fun z16 z17 => bif !z17 then K 0 0 (bs []) false else Sp.value_Int z16 γ fun z18 z19 z20 => K z18 z19 z20 true) = _ from by rw [h2]; rfl))⟩
        | true => exact ⟨⟨2, n, bs []⟩, true, fun _ => okInt (h1 rfl), fun γ K => (r0 γ _).trans (by rw [hb, cond_false, r1, hc, cond_false, r2, hz, hy]; exact (show Sp.calc_arith op v.n w.n γ (fun z16 z17 => bif !z17 then K 0 0 (bs []) false else Sp.value_Int z16 γ fun z18 z19 z20 => K z18 z19 z20 true) = _ from by rw [h2]; rfl))⟩

end Go.Proofs.YtebfhpjnbmdcoaaGreatDoor

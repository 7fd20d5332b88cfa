/- Which catalogs are too large; CatalogChecks in plain Lean. -/
import Derived.Test.YtimdilbcijgadaaGreatDoorPG
set_option linter.unusedVariables false
set_option linter.unusedSimpArgs false
namespace Go.Proofs.YtimdilbcijgadaaGreatDoor
open Go Go.Aev Go.RowKit Go.Sort

theorem any_false {α : Type} : ∀ l : List α, (l.any fun _ => false) = false
  | [] => rfl
  | _ :: l => by rw [List.any_cons, any_false l]; rfl
theorem bif_eq {β : Type} (b : Bool) (x : β) : cond b x x = x := by cases b <;> rfl
def bigT (t : Tb) : Bool := decide (40 < t.cols.length) || ((decide (300 < t.rows.length) && decide (t.rows.length ≤ 4096)) || (decide (5000 < t.rows.length) || t.rows.any fun r => decide (50 < r.length)))
def largeC (c : List Tb) : Bool := decide (30 < c.length) || c.any bigT
theorem dn {a b : Nat} : decide ((a : Int) < Int.ofNat b) = decide (a < b) := decide_eq_decide.2 ⟨fun h => by simp only [Int.ofNat_eq_natCast] at h; omega, fun h => by simp only [Int.ofNat_eq_natCast]; omega⟩
theorem dn' {a b : Nat} : decide (Int.ofNat b ≤ (a : Int)) = decide (b ≤ a) := decide_eq_decide.2 ⟨fun h => by simp only [Int.ofNat_eq_natCast] at h; omega, fun h => by simp only [Int.ofNat_eq_natCast]; omega⟩
theorem large_rows (c : List Tb) (i : Nat) (t : Tb) (ht : c[i]? = some t) (hl : t.rows.length ≤ 5000) (v : Bool) (γ : Type) (K : Ex → Bool → Int → Option γ) (X : Option γ) (hX : ∀ j, K Ex.ret true j = X) :
    Sp.ref13_Large_L2 fuel (c.map encT) (i : Int) v 0 γ K = cond (t.rows.any fun r => decide (50 < r.length)) X (K (Ex.exit 2) v (t.rows.length : Int)) := by
  refine (scan_any t.rows (fun r => decide (50 < r.length)) (fun n k => Sp.ref13_Large_L2 n (c.map encT) (i : Int) v (k : Int) γ K) X (K (Ex.exit 2) v (t.rows.length : Int)) (fun n k r hr hk => ?_) (fun n => ?_) fuel (by unfold fuel; omega))
  · conv => lhs; unfold Sp.ref13_Large_L2 Sp.B_ref13_Large_L2
    rw [elem_T2 ht, List.length_map, lt_in' hk, cond_true, elem_T2 ht, elem_R hr, List.length_map, next_small (by omega), show (50 : Int) = ((50 : Nat) : Int) from rfl, dn]
    cases decide (50 < r.length) with
    | true => rw [cond_true, cond_true, hX]
    | false => rfl
  · conv => lhs; unfold Sp.ref13_Large_L2 Sp.B_ref13_Large_L2
    rw [elem_T2 ht, List.length_map, lt_out', cond_false]
theorem Large_eq (c : List Tb) (γ : Type) (K : Bool → Option γ) : Sp.ref13_Large (c.map encT) γ K = K (largeC c) := by
  unfold Sp.ref13_Large Sp.B_ref13_Large largeC
  rw [List.length_map, show (30 : Int) = ((30 : Nat) : Int) from rfl, dn]
  by_cases h30 : 30 < c.length
  · rw [decide_eq_true h30]; rfl
  · rw [decide_eq_false h30, cond_false, Bool.false_or]
    refine (scan_any c bigT (fun n i => Sp.ref13_Large_L0 n (c.map encT) false (i : Int) γ fun z3 z4 z5 => bif Ex.isExit z3 0 then K false else bif Ex.isRet z3 then K z4 else none) (K true) (K false) (fun n i a ha hi => ?_) (fun n => ?_) fuel (by unfold fuel; omega)).trans ?_
    · conv => lhs; unfold Sp.ref13_Large_L0 Sp.B_ref13_Large_L0
      rw [List.length_map, lt_in' hi, cond_true, elem_T1 ha, elem_T2 ha, elem_T2 ha, elem_T2 ha, List.length_map, List.length_map, show (40 : Int) = ((40 : Nat) : Int) from rfl, show (300 : Int) = ((300 : Nat) : Int) from rfl, show (4096 : Int) = ((4096 : Nat) : Int) from rfl, show (5000 : Int) = ((5000 : Nat) : Int) from rfl, dn, dn, dn, dn', next_small (by omega)]
      unfold bigT
      cases decide (40 < a.cols.length) with
      | true => rfl
      | false =>
        by_cases h5 : 5000 < a.rows.length
        · rw [decide_eq_true h5]
          cases decide (300 < a.rows.length) <;> cases decide (a.rows.length ≤ 4096) <;> rfl
        · rw [decide_eq_false h5]
          simp only [cond_false, Bool.false_or]
          rw [large_rows c i a ha (by omega) false γ _ (K true) (fun j => rfl)]
          cases decide (300 < a.rows.length) <;> cases decide (a.rows.length ≤ 4096) <;> cases (a.rows.any fun r => decide (50 < r.length)) <;> rfl
    · conv => lhs; unfold Sp.ref13_Large_L0 Sp.B_ref13_Large_L0
      rw [List.length_map, lt_out', cond_false]
      rfl
    · cases c.any bigT <;> rfl
/-- names as long as a text may be -/
def Tb.Named (t : Tb) : Prop := t.name.length ≤ 9223372036854775807 ∧ ∀ c ∈ t.cols, c.name.length ≤ 9223372036854775807
theorem fine_of {t : Tb} (hn : t.Named) (h : bigT t = false) : t.Fine := by
  simp only [bigT, Bool.or_eq_false_iff, Bool.and_eq_false_iff, decide_eq_false_iff_not] at h
  obtain ⟨h1, h2, h3, h4⟩ := h
  refine ⟨hn.1, hn.2, by omega, by omega, fun r hr => ?_⟩
  have := (List.any_eq_false.1 h4) r hr
  simp only [decide_eq_true_eq] at this
  omega
theorem large_false {c : List Tb} (hn : ∀ t ∈ c, t.Named) (h : largeC c = false) : c.length ≤ 30 ∧ ∀ t ∈ c, t.Fine := by
  simp only [largeC, Bool.or_eq_false_iff, decide_eq_false_iff_not] at h
  refine ⟨by omega, fun t ht => fine_of (hn t ht) ?_⟩
  simpa using (List.any_eq_false.1 h.2) t ht

theorem SameList_any (l m : List (List Vl)) (hl : l.length ≤ 6000) (hr : ∀ x ∈ l, x.length ≤ 100) (γ : Type) (K : Bool → Option γ) : Sp.ref02_SameList (l.map lEnc) (m.map lEnc) γ K = K (decide (l = m)) := by
  by_cases hlen : l.length = m.length
  · exact ref02_SameList_eq l m hl hlen hr γ K
  · unfold Sp.ref02_SameList Sp.B_ref02_SameList
    rw [List.length_map, List.length_map, decide_eq_false (show ¬ Int.ofNat l.length = Int.ofNat m.length by simp only [Int.ofNat_eq_natCast]; omega), decide_eq_false (fun e => hlen (by rw [e]))]
    rfl
theorem ref_Sort_eq (l : List (List Vl)) (hl : l.length ≤ 6000) (hr : ∀ x ∈ l, x.length ≤ 100) (γ : Type) (K : List (List Dat) → Option γ) : Sp.ref02_Sort fuel (l.map lEnc) γ K = K ((sortBy R.cmp l).map lEnc) :=
  ref02_Sort_eq fuel l (by unfold fuel; omega) (by unfold fuel; omega) hl hr γ K
theorem ref_Same_eq (a b : List Tb) (hl : a.length ≤ 1000) (ha : ∀ t ∈ a, t.Fine) (hb : ∀ t ∈ b, t.Fine) (γ : Type) (K : Bool → Option γ) :
    Sp.ref13_Same (a.map encT) (b.map encT) γ K = K (decide (a.length = b.length) && !(a.zip b).any fun x => !sameT x.1 x.2) := by
  unfold Sp.ref13_Same Sp.B_ref13_Same
  rw [List.length_map, List.length_map]
  by_cases hlen : a.length = b.length
  case neg => rw [decide_eq_false (show ¬ Int.ofNat a.length = Int.ofNat b.length by simp only [Int.ofNat_eq_natCast]; omega), decide_eq_false hlen]; rfl
  rw [decide_eq_true (show Int.ofNat a.length = Int.ofNat b.length by rw [hlen]), decide_eq_true hlen, Bool.not_true, cond_false, Bool.true_and]
  have hz : (a.zip b).length = a.length := by rw [List.length_zip, hlen, Nat.min_self]
  refine (scan_any (a.zip b) (fun x => !sameT x.1 x.2) (fun n i => Sp.ref13_Same_L0 n (a.map encT) (b.map encT) false (i : Int) γ fun z4 z5 z6 => bif Ex.isExit z4 0 then K true else bif Ex.isRet z4 then K z5 else none) (K false) (K true) (fun n i x hx hi => ?_) (fun n => ?_) fuel (by unfold fuel; omega)).trans ?_
  · obtain ⟨h1, h2⟩ := zip_get hx
    have f1 := ha x.1 (List.mem_of_getElem? h1)
    have f2 := hb x.2 (List.mem_of_getElem? h2)
    conv => lhs; unfold Sp.ref13_Same_L0 Sp.B_ref13_Same_L0
    rw [List.length_map, lt_in' (l := a) (by omega), cond_true, elem_T0 h1, elem_T0 h2, show decide (mk x.1.name = mk x.2.name) = decide (x.1.name = x.2.name) from decide_eq_decide.2 mk_inj]
    unfold sameT
    cases decide (x.1.name = x.2.name) with
    | false => rfl
    | true =>
      rw [Bool.not_true, cond_false, elem_T1 h1, elem_T1 h2, SameColumns_eq _ _ f1.ncols]
      cases decide (x.1.cols = x.2.cols) with
      | false => rfl
      | true =>
        rw [Bool.not_true, cond_false, elem_T2 h1, ref_Sort_eq _ f1.nrows f1.rows, elem_T2 h2, ref_Sort_eq _ f2.nrows f2.rows, SameList_any _ _ (by rw [sort_len]; exact f1.nrows) (sort_rows f1.rows), next_small (by omega)]
        cases decide (sortBy R.cmp x.1.rows = sortBy R.cmp x.2.rows) <;> rfl
  · rw [hz]
    conv => lhs; unfold Sp.ref13_Same_L0 Sp.B_ref13_Same_L0
    rw [List.length_map, lt_out', cond_false]
    rfl
  · cases (a.zip b).any fun x => !sameT x.1 x.2 <;> rfl
theorem sameT_self (t : Tb) : sameT t t = true := by simp [sameT]

theorem checks_loop (c : List Tb) (hl : c.length ≤ 1000) (h : ∀ t ∈ c, t.Fine) (is : Bool) (k : Int) (v : Bool) (w0 : ByteArray) (w1 w2 : List (List Dat)) (γ : Type) (K : Ex → Bool → Int → ByteArray → List (List Dat) → List (List Dat) → Option γ) :
    Sp.law13_CatalogChecks_L0 fuel (c.map encT) is k v 0 w0 w1 w2 γ K = K (Ex.exit 0) v (c.length : Int) w0 w1 w2 := by
  refine (scan_any c (fun _ => false) (fun n i => Sp.law13_CatalogChecks_L0 n (c.map encT) is k v (i : Int) w0 w1 w2 γ K) none (K (Ex.exit 0) v (c.length : Int) w0 w1 w2) (fun n i a ha hi => ?_) (fun n => ?_) fuel (by unfold fuel; omega)).trans ?_
  · conv => lhs; unfold Sp.law13_CatalogChecks_L0 Sp.B_law13_CatalogChecks_L0
    have hf := h a (List.mem_of_getElem? ha)
    rw [List.length_map, lt_in' hi, cond_true, elem_T ha, Table_eq a hf, elem_T ha, ref_Table_eq a hf, next_small (by omega)]
    cases okT a <;> rfl
  · conv => lhs; unfold Sp.law13_CatalogChecks_L0 Sp.B_law13_CatalogChecks_L0
    rw [List.length_map, lt_out', cond_false]
  · rw [any_false]; rfl

theorem find_none {c : List Tb} (hl : c.length ≤ 1000) {name : List UInt8} (h : pos name c = none) (γ : Type) (K : ByteArray → List (List Dat) → List (List Dat) → Bool → Option γ) : Sp.catalog_Find (c.map encT) (mk name) γ K = K (bs []) [] [] false := by
  rw [Find_eq c hl, h]; rfl
theorem find_some {c : List Tb} (hl : c.length ≤ 1000) {name : List UInt8} {k : Nat} {t : Tb} (h : pos name c = some k) (ht : c[k]? = some t) (γ : Type) (K : ByteArray → List (List Dat) → List (List Dat) → Bool → Option γ) : Sp.catalog_Find (c.map encT) (mk name) γ K = K (mk t.name) (t.cols.map encC) (t.rows.map lEnc) true := by
  rw [Find_eq c hl, h, Option.bind_some, ht]
theorem ref_find_none {c : List Tb} (hl : c.length ≤ 1000) {name : List UInt8} (h : pos name c = none) (γ : Type) (K : Int → Option γ) : Sp.ref13_Find (c.map encT) (mk name) γ K = K (-1) := by
  rw [ref_Find_eq c hl, h]
theorem ref_find_some {c : List Tb} (hl : c.length ≤ 1000) {name : List UInt8} {k : Nat} (h : pos name c = some k) (γ : Type) (K : Int → Option γ) : Sp.ref13_Find (c.map encT) (mk name) γ K = K (k : Int) := by
  rw [ref_Find_eq c hl, h]
theorem same_one (t : Tb) (hft : t.Fine) (γ : Type) (K : Bool → Option γ) : Sp.ref13_Same [[.str (mk t.name), .sl (t.cols.map encC), .sl (t.rows.map lEnc)]] [[.str (mk t.name), .sl (t.cols.map encC), .sl (t.rows.map lEnc)]] γ K = K true := by
  have hs := ref_Same_eq [t] [t] (by simp) (fun x hx => by rw [List.mem_singleton.1 hx]; exact hft) (fun x hx => by rw [List.mem_singleton.1 hx]; exact hft) γ K
  refine Eq.trans (show _ = Sp.ref13_Same ([t].map encT) ([t].map encT) γ K from rfl) (hs.trans ?_)
  simp [sameT_self]

theorem law_Checks (lives : ∀ (γ : Type) (K : Bool → Option γ), Sp.law13_lives γ K = K true) (c : List Tb) (hn : ∀ t ∈ c, t.Named) (name : List UInt8) (γ : Type) (K : Bool → Option γ) : Sp.law13_CatalogChecks (c.map encT) (mk name) γ K = K true := by
  unfold Sp.law13_CatalogChecks Sp.B_law13_CatalogChecks
  rw [Large_eq]
  cases hL : largeC c with
  | true => rw [cond_true, lives]
  | false =>
    rw [cond_false, size_mk]
    cases decide (1000 < Int.ofNat name.length) with
    | true => rw [cond_true, lives]
    | false =>
      obtain ⟨hl, hf⟩ := large_false hn hL
      have hl' : c.length ≤ 1000 := by omega
      rw [cond_false, ref_Check_eq c hl' hf]
      cases hc : okC c with
      | false =>
        rw [Bool.not_false, cond_true]
        cases hp : pos name c with
        | none =>
          rw [find_none hl' hp, ref_find_none hl' hp, lives, Bool.not_true, cond_false, Check_eq c hl' hf, hc, checks_loop c hl' hf]
          rfl
        | some k =>
          obtain ⟨t, ht, hk⟩ := pos_some hp
          rw [find_some hl' hp ht, ref_find_some hl' hp, lives, Bool.not_true, cond_false, Check_eq c hl' hf, hc, checks_loop c hl' hf, ge_zero, elem_T ht, same_one t (hf t (List.mem_of_getElem? ht))]
          rfl
      | true =>
        rw [Bool.not_true, cond_false]
        cases hp : pos name c with
        | none =>
          rw [find_none hl' hp, ref_find_none hl' hp, lives, Bool.not_true, cond_false, Check_eq c hl' hf, hc, checks_loop c hl' hf]
          rfl
        | some k =>
          obtain ⟨t, ht, hk⟩ := pos_some hp
          rw [find_some hl' hp ht, ref_find_some hl' hp, lives, Bool.not_true, cond_false, Check_eq c hl' hf, hc, checks_loop c hl' hf, ge_zero, elem_T ht, same_one t (hf t (List.mem_of_getElem? ht))]
          rfl
end Go.Proofs.YtimdilbcijgadaaGreatDoor

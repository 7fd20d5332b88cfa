/- Catalogs: which may be, a table by its name, which are the same, which are too large. -/
import Derived.Test.YtimdilbcijgadaaGreatDoorPF
set_option linter.unusedVariables false
set_option linter.unusedSimpArgs false
namespace Go.Proofs.YtimdilbcijgadaaGreatDoor
open Go Go.Aev Go.RowKit Go.Sort

def okC (c : List Tb) : Bool := decide (c.length ≤ 16) && (!c.any (fun t => !okT t) && !anyAcc (dup Tb.name) [] c)
theorem okT_name {t : Tb} (h : okT t = true) : t.name.length ≤ 24 := by
  simp only [okT, Bool.and_eq_true] at h
  exact nameOk_len h.1
theorem odd_tables (c : List Tb) (hl : c.length ≤ 1000) (h : ∀ t ∈ c, t.Fine) (γ : Type) (K : Bool → Option γ) : Sp.slices_ContainsFunc_api_Table_api_Table (c.map encT) γ K = K (c.any fun t => !okT t) := by
  unfold Sp.slices_ContainsFunc_api_Table_api_Table Sp.B_slices_ContainsFunc_api_Table_api_Table Sp.slices_IndexFunc_api_Table_api_Table'1 Sp.B_slices_IndexFunc_api_Table_api_Table'1
  rw [List.length_map]
  refine (scan_any c (fun t => !okT t) (fun n i => Sp.slices_IndexFunc_api_Table_api_Table_L0'1 n (c.map encT) (Int.ofNat c.length) 0 (i : Int) γ fun z3 z4 z5 => bif Ex.isExit z3 0 then K (decide ((0 : Int) ≤ -1)) else bif Ex.isRet z3 then K (decide (0 ≤ z4)) else none) (K true) (K false) (fun n i a ha hi => ?_) (fun n => ?_) fuel (by unfold fuel; omega)).trans ?_
  · conv => lhs; unfold Sp.slices_IndexFunc_api_Table_api_Table_L0'1 Sp.B_slices_IndexFunc_api_Table_api_Table_L0'1
    rw [lt_in' hi, cond_true, elem_T ha]
    unfold Sp.catalog_Check_1 Sp.B_catalog_Check_1
    rw [Table_eq a (h a (List.mem_of_getElem? ha)), next_small (by omega)]
    cases okT a with
    | true => rfl
    | false =>
      show K (decide ((0 : Int) ≤ (i : Int))) = K true
      rw [ge_zero]
  · conv => lhs; unfold Sp.slices_IndexFunc_api_Table_api_Table_L0'1 Sp.B_slices_IndexFunc_api_Table_api_Table_L0'1
    rw [lt_out', cond_false]
    rfl
  · cases c.any fun t => !okT t <;> rfl
theorem unlike_tabs (l : List Tb) (hl : l.length ≤ 1000) (ho : (l.any fun t => !okT t) = false) (γ : Type) (K : Bool → Option γ) : Sp.catalog_unlike_api_Table (l.map encT) γ K = K (!anyAcc (dup Tb.name) [] l) := by
  unfold Sp.catalog_unlike_api_Table
  rw [tabNames_enc, Option.bind_some, unlikeRes_names Tb.name l (by omega) (fun a ha => okT_name (by simpa using (List.any_eq_false.1 ho) a ha)), Option.bind_some]
theorem Check_eq (c : List Tb) (hl : c.length ≤ 1000) (h : ∀ t ∈ c, t.Fine) (γ : Type) (K : Int → Option γ) : Sp.catalog_Check (c.map encT) γ K = K (cond (okC c) 0 130) := by
  unfold Sp.catalog_Check Sp.B_catalog_Check okC
  rw [List.length_map]
  by_cases h2 : c.length ≤ 16
  case neg => rw [decide_eq_true (show 16 < Int.ofNat c.length by simp only [Int.ofNat_eq_natCast]; omega), decide_eq_false h2]; rfl
  rw [decide_eq_false (show ¬ 16 < Int.ofNat c.length by simp only [Int.ofNat_eq_natCast]; omega), decide_eq_true h2, cond_false, Bool.true_and, odd_tables c hl h]
  cases ho : c.any fun t => !okT t with
  | true => rfl
  | false =>
    rw [cond_false, unlike_tabs c hl ho]
    cases anyAcc (dup Tb.name) [] c <;> rfl
theorem ref_dupT (c : List Tb) (hl : c.length ≤ 1000) (i : Nat) (hi : i < c.length) (a : Tb) (ha : c[i]? = some a) (v : Bool) (γ : Type) (K : Ex → Bool → Int → Option γ) (X : Option γ) (hX : ∀ j, K Ex.ret false j = X) :
    Sp.ref13_Check_L2 fuel (c.map encT) (i : Int) v 0 γ K = cond (dup Tb.name (c.take i) a) X (K (Ex.exit 2) v (i : Int)) := by
  have hti : (c.take i).length = i := by rw [List.length_take]; omega
  refine (scan_any (c.take i) (fun x => decide (x.name = a.name)) (fun n k => Sp.ref13_Check_L2 n (c.map encT) (i : Int) v (k : Int) γ K) X (K (Ex.exit 2) v (i : Int)) (fun n k b hb hk => ?_) (fun n => ?_) fuel (by unfold fuel; omega))
  · have hb' : c[k]? = some b := by rw [List.getElem?_take, if_pos (by omega)] at hb; exact hb
    conv => lhs; unfold Sp.ref13_Check_L2 Sp.B_ref13_Check_L2
    rw [lt_in (show k < i by omega), cond_true, elem_T0 hb', elem_T0 ha, next_small (by omega), show decide (mk b.name = mk a.name) = decide (b.name = a.name) from decide_eq_decide.2 mk_inj]
    cases decide (b.name = a.name) with
    | true => rw [cond_true, cond_true, hX]
    | false => rfl
  · rw [hti]
    conv => lhs; unfold Sp.ref13_Check_L2 Sp.B_ref13_Check_L2
    rw [lt_out, cond_false]
theorem ref_Check_eq (c : List Tb) (hl : c.length ≤ 1000) (h : ∀ t ∈ c, t.Fine) (γ : Type) (K : Bool → Option γ) : Sp.ref13_Check (c.map encT) γ K = K (okC c) := by
  unfold Sp.ref13_Check Sp.B_ref13_Check okC
  rw [List.length_map]
  refine (scan_acc0 c (fun acc t => !okT t || dup Tb.name acc t) (fun n i => Sp.ref13_Check_L0 n (c.map encT) false (i : Int) γ fun z3 z4 z5 => bif Ex.isExit z3 0 then K (decide (Int.ofNat c.length ≤ 16)) else bif Ex.isRet z3 then K z4 else none) (K false) (K (decide (Int.ofNat c.length ≤ 16))) (fun n i a ha hi => ?_) (fun n => ?_) fuel (by unfold fuel; omega)).trans ?_
  · conv => lhs; unfold Sp.ref13_Check_L0 Sp.B_ref13_Check_L0
    rw [List.length_map, lt_in' hi, cond_true, elem_T ha, ref_Table_eq a (h a (List.mem_of_getElem? ha))]
    cases okT a with
    | false => rfl
    | true =>
      simp only [Bool.not_true, cond_false, Bool.false_or]
      rw [ref_dupT c hl i hi a ha false γ _ (K false) (fun j => rfl)]
      simp only [Ex.isExit, beq_self_eq_true, cond_true]
      rw [next_small (by omega)]
  · conv => lhs; unfold Sp.ref13_Check_L0 Sp.B_ref13_Check_L0
    rw [List.length_map, lt_out', cond_false]
    rfl
  · rw [anyAcc_or, show decide (Int.ofNat c.length ≤ 16) = decide (c.length ≤ 16) from decide_eq_decide.2 ⟨fun h => by simp only [Int.ofNat_eq_natCast] at h; omega, fun h => by simp only [Int.ofNat_eq_natCast]; omega⟩]
    cases c.any fun t => !okT t <;> cases anyAcc (dup Tb.name) [] c <;> cases decide (c.length ≤ 16) <;> rfl

/-! ### a table by its name -/
def pos (name : List UInt8) (c : List Tb) : Option Nat := c.findIdx? fun t => decide (t.name = name)
theorem pos_some {name : List UInt8} {c : List Tb} {k : Nat} (h : pos name c = some k) : ∃ t, c[k]? = some t ∧ k < c.length := by
  unfold pos at h
  rw [List.findIdx?_eq_some_iff_getElem] at h
  obtain ⟨hk, _⟩ := h
  exact ⟨c[k], List.getElem?_eq_getElem hk, hk⟩
theorem Find_eq (c : List Tb) (hl : c.length ≤ 1000) (name : List UInt8) (γ : Type) (K : ByteArray → List (List Dat) → List (List Dat) → Bool → Option γ) :
    Sp.catalog_Find (c.map encT) (mk name) γ K = match (pos name c).bind (c[·]?) with
      | some t => K (mk t.name) (t.cols.map encC) (t.rows.map lEnc) true
      | none => K (bs []) [] [] false := by
  unfold Sp.catalog_Find Sp.B_catalog_Find Sp.slices_IndexFunc_api_Table_api_Table Sp.B_slices_IndexFunc_api_Table_api_Table
  rw [List.length_map]
  refine (scan_list c (fun t => decide (t.name = name)) (fun n i => Sp.slices_IndexFunc_api_Table_api_Table_L0 n (c.map encT) (Int.ofNat c.length) 0 (i : Int) (mk name) γ _) (fun i => elemAt (c.map encT) (i : Int) fun z6 => bif List.length z6 == 3 then cellAt z6 0 fun z7 => asStr z7 fun z8 => cellAt z6 1 fun z9 => asSl z9 fun z10 => cellAt z6 2 fun z11 => asSl z11 fun z12 => K z8 z10 z12 true else none) (K (bs []) [] [] false) (fun n i a ha hi => ?_) (fun n => ?_) c.length 0 fuel (by omega) (by unfold fuel; omega)).trans ?_
  · conv => lhs; unfold Sp.slices_IndexFunc_api_Table_api_Table_L0 Sp.B_slices_IndexFunc_api_Table_api_Table_L0
    rw [lt_in' hi, cond_true, elem_T ha]
    unfold Sp.catalog_Find_1 Sp.B_catalog_Find_1
    rw [next_small (by omega), show decide (mk a.name = mk name) = decide (a.name = name) from decide_eq_decide.2 mk_inj]
    cases decide (a.name = name) with
    | true =>
      simp only [cond_true, Ex.isExit, Ex.isRet, cond_false]
      rw [decide_eq_false (show ¬ (i : Int) < 0 by omega), cond_false]
    | false => rfl
  · conv => lhs; unfold Sp.slices_IndexFunc_api_Table_api_Table_L0 Sp.B_slices_IndexFunc_api_Table_api_Table_L0
    rw [lt_out', cond_false]
    rfl
  · rw [List.drop_zero]
    show (match pos name c with
      | some k => _
      | none => _) = _
    cases hp : pos name c with
    | none => rfl
    | some k =>
      obtain ⟨t, ht, hk⟩ := pos_some hp
      simp only [Option.bind_some, ht, Nat.zero_add]
      exact elem_T ht _
theorem ref_Find_eq (c : List Tb) (hl : c.length ≤ 1000) (name : List UInt8) (γ : Type) (K : Int → Option γ) :
    Sp.ref13_Find (c.map encT) (mk name) γ K = K (match pos name c with
      | some k => (k : Int)
      | none => -1) := by
  unfold Sp.ref13_Find Sp.B_ref13_Find
  refine (scan_list c (fun t => decide (t.name = name)) (fun n i => Sp.ref13_Find_L0 n (c.map encT) (mk name) 0 (i : Int) γ fun z4 z5 z6 => bif Ex.isExit z4 0 then K (-1) else bif Ex.isRet z4 then K z5 else none) (fun i => K (i : Int)) (K (-1)) (fun n i a ha hi => ?_) (fun n => ?_) c.length 0 fuel (by omega) (by unfold fuel; omega)).trans ?_
  · conv => lhs; unfold Sp.ref13_Find_L0 Sp.B_ref13_Find_L0
    rw [List.length_map, lt_in' hi, cond_true, elem_T0 ha, next_small (by omega), show decide (mk a.name = mk name) = decide (a.name = name) from decide_eq_decide.2 mk_inj]
    cases decide (a.name = name) <;> rfl
  · conv => lhs; unfold Sp.ref13_Find_L0 Sp.B_ref13_Find_L0
    rw [List.length_map, lt_out', cond_false]
    rfl
  · rw [List.drop_zero]
    show (match pos name c with
      | some k => _
      | none => _) = _
    cases pos name c with
    | none => rfl
    | some k => simp only [Nat.zero_add]

/-! ### which are the same -/
theorem anyzip_ne {α : Type} [DecidableEq α] : ∀ (l m : List α), l.length = m.length → ((l.zip m).any fun x => !decide (x.1 = x.2)) = !decide (l = m)
  | [], [], _ => rfl
  | [], b :: m, h => by simp at h
  | a :: l, [], h => by simp at h
  | a :: l, b :: m, h => by
    rw [List.zip_cons_cons, List.any_cons, anyzip_ne l m (by simpa using h)]
    by_cases h1 : a = b
    · subst h1
      by_cases h2 : l = m
      · subst h2; simp
      · have : ¬ a :: l = a :: m := fun e => h2 (List.cons.inj e).2
        simp [h2]
    · have : ¬ a :: l = b :: m := fun e => h1 (List.cons.inj e).1
      simp [h1]
theorem co_eq (a b : Co) : (decide (mk a.tab = mk b.tab) && (decide (mk a.name = mk b.name) && (decide (a.ty = b.ty) && true))) = decide (a = b) := by
  cases a; cases b
  simp only [Co.mk.injEq, Bool.and_true, mk_inj]
  simp only [Bool.decide_and]
theorem Equal_cols (l m : List Co) (hl : l.length ≤ 1000000) (γ : Type) (K : Bool → Option γ) : Sp.slices_Equal_api_Column_api_Column (l.map encC) (m.map encC) γ K = K (decide (l = m)) := by
  unfold Sp.slices_Equal_api_Column_api_Column Sp.B_slices_Equal_api_Column_api_Column
  rw [List.length_map, List.length_map]
  by_cases hlen : l.length = m.length
  case neg => rw [decide_eq_false (show ¬ Int.ofNat l.length = Int.ofNat m.length by simp only [Int.ofNat_eq_natCast]; omega), decide_eq_false (fun e => hlen (by rw [e]))]; rfl
  rw [decide_eq_true (show Int.ofNat l.length = Int.ofNat m.length by rw [hlen]), Bool.not_true, cond_false]
  have hz : (l.zip m).length = l.length := by rw [List.length_zip, hlen, Nat.min_self]
  refine (scan_any (l.zip m) (fun x => !decide (x.1 = x.2)) (fun n i => Sp.slices_Equal_api_Column_api_Column_L0 n (l.map encC) (m.map encC) (Int.ofNat l.length) false (i : Int) γ _) (K false) (K true) (fun n i a ha hi => ?_) (fun n => ?_) fuel (by unfold fuel; omega)).trans ?_
  · obtain ⟨h1, h2⟩ := zip_get ha
    conv => lhs; unfold Sp.slices_Equal_api_Column_api_Column_L0 Sp.B_slices_Equal_api_Column_api_Column_L0
    rw [lt_in' (l := l) (by omega), cond_true, elem_C h1, elem_C h2, co_eq, next_small (by omega)]
    cases decide (a.1 = a.2) <;> rfl
  · rw [hz]
    conv => lhs; unfold Sp.slices_Equal_api_Column_api_Column_L0 Sp.B_slices_Equal_api_Column_api_Column_L0
    rw [lt_out', cond_false]
    rfl
  · rw [anyzip_ne l m hlen]
    cases decide (l = m) <;> rfl
theorem SameColumns_eq (l m : List Co) (hl : l.length ≤ 1000000) (γ : Type) (K : Bool → Option γ) : Sp.ref13_SameColumns (l.map encC) (m.map encC) γ K = K (decide (l = m)) := by
  unfold Sp.ref13_SameColumns Sp.B_ref13_SameColumns
  rw [List.length_map, List.length_map]
  by_cases hlen : l.length = m.length
  case neg => rw [decide_eq_false (show ¬ Int.ofNat l.length = Int.ofNat m.length by simp only [Int.ofNat_eq_natCast]; omega), decide_eq_false (fun e => hlen (by rw [e]))]; rfl
  rw [decide_eq_true (show Int.ofNat l.length = Int.ofNat m.length by rw [hlen]), Bool.not_true, cond_false]
  have hz : (l.zip m).length = l.length := by rw [List.length_zip, hlen, Nat.min_self]
  refine (scan_any (l.zip m) (fun x => !decide (x.1 = x.2)) (fun n i => Sp.ref13_SameColumns_L0 n (l.map encC) (m.map encC) false (i : Int) γ _) (K false) (K true) (fun n i a ha hi => ?_) (fun n => ?_) fuel (by unfold fuel; omega)).trans ?_
  · obtain ⟨h1, h2⟩ := zip_get ha
    conv => lhs; unfold Sp.ref13_SameColumns_L0 Sp.B_ref13_SameColumns_L0
    rw [List.length_map, lt_in' (l := l) (by omega), cond_true, elem_C h1, elem_C h2, co_eq, next_small (by omega)]
    cases decide (a.1 = a.2) <;> rfl
  · rw [hz]
    conv => lhs; unfold Sp.ref13_SameColumns_L0 Sp.B_ref13_SameColumns_L0
    rw [List.length_map, lt_out', cond_false]
    rfl
  · rw [anyzip_ne l m hlen]
    cases decide (l = m) <;> rfl
theorem EqualFunc_rows (l m : List (List Vl)) (hl : l.length ≤ 6000) (hr : ∀ r ∈ l, r.length ≤ 100) (γ : Type) (K : Bool → Option γ) : Sp.slices_EqualFunc_api_Value_api_Value_api_Value_api_Value (l.map lEnc) (m.map lEnc) γ K = K (decide (l = m)) := by
  unfold Sp.slices_EqualFunc_api_Value_api_Value_api_Value_api_Value Sp.B_slices_EqualFunc_api_Value_api_Value_api_Value_api_Value
  rw [List.length_map, List.length_map]
  by_cases hlen : l.length = m.length
  case neg => rw [decide_eq_false (show ¬ Int.ofNat l.length = Int.ofNat m.length by simp only [Int.ofNat_eq_natCast]; omega), decide_eq_false (fun e => hlen (by rw [e]))]; rfl
  rw [decide_eq_true (show Int.ofNat l.length = Int.ofNat m.length by rw [hlen]), Bool.not_true, cond_false]
  have hz : (l.zip m).length = l.length := by rw [List.length_zip, hlen, Nat.min_self]
  refine (scan_any (l.zip m) (fun x => !decide (x.1 = x.2)) (fun n i => Sp.slices_EqualFunc_api_Value_api_Value_api_Value_api_Value_L0 n (m.map lEnc) (l.map lEnc) (Int.ofNat l.length) false (i : Int) γ _) (K false) (K true) (fun n i a ha hi => ?_) (fun n => ?_) fuel (by unfold fuel; omega)).trans ?_
  · obtain ⟨h1, h2⟩ := zip_get ha
    conv => lhs; unfold Sp.slices_EqualFunc_api_Value_api_Value_api_Value_api_Value_L0 Sp.B_slices_EqualFunc_api_Value_api_Value_api_Value_api_Value_L0
    rw [lt_in' (l := l) (by omega), cond_true, elem_R h1, elem_R h2, row_Same_eq _ _ (by have := hr a.1 (List.mem_of_getElem? h1); omega), next_small (by omega)]
    cases decide (a.1 = a.2) <;> rfl
  · rw [hz]
    conv => lhs; unfold Sp.slices_EqualFunc_api_Value_api_Value_api_Value_api_Value_L0 Sp.B_slices_EqualFunc_api_Value_api_Value_api_Value_api_Value_L0
    rw [lt_out', cond_false]
    rfl
  · rw [anyzip_ne l m hlen]
    cases decide (l = m) <;> rfl

/-- two tables -/
def sameT (a b : Tb) : Bool := decide (a.name = b.name) && (decide (a.cols = b.cols) && decide (sortBy R.cmp a.rows = sortBy R.cmp b.rows))
theorem sort_len (l : List (List Vl)) : (sortBy R.cmp l).length = l.length := (sortBy_perm R.cmp l).length_eq
theorem sort_rows {l : List (List Vl)} (h : ∀ r ∈ l, r.length ≤ 100) : ∀ r ∈ sortBy R.cmp l, r.length ≤ 100 := fun r hr => h r ((sortBy_perm R.cmp l).mem_iff.1 hr)
theorem same_eq (a b : Tb) (ha : a.Fine) (hb : b.Fine) (γ : Type) (K : Bool → Option γ) : Sp.catalog_same (mk a.name) (a.cols.map encC) (a.rows.map lEnc) (mk b.name) (b.cols.map encC) (b.rows.map lEnc) γ K = K (sameT a b) := by
  unfold Sp.catalog_same Sp.B_catalog_same sameT
  rw [show decide (mk a.name = mk b.name) = decide (a.name = b.name) from decide_eq_decide.2 mk_inj]
  cases decide (a.name = b.name) with
  | false => rfl
  | true =>
    rw [cond_true, Equal_cols _ _ ha.ncols]
    cases decide (a.cols = b.cols) with
    | false => rfl
    | true =>
      rw [cond_true, row_Sort_eq _ ha.nrows ha.rows, row_Sort_eq _ hb.nrows hb.rows, EqualFunc_rows _ _ (by rw [sort_len]; exact ha.nrows) (sort_rows ha.rows)]
      rfl
end Go.Proofs.YtimdilbcijgadaaGreatDoor

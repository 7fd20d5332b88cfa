/- CatalogTables in plain Lean. -/
import Derived.Test.YtimdilbcijgadaaGreatDoorPH
import Derived.Lib.Join
set_option linter.unusedVariables false
set_option linter.unusedSimpArgs false
namespace Go.Proofs.YtimdilbcijgadaaGreatDoor
open Go Go.Aev Go.RowKit Go.Sort

/-! ### columns by a name -/
def withTab (s : List UInt8) (c : Co) : Co := { c with tab := s }
theorem sized_cols (l : List Co) : sized (l.map encC) 3 = true := sized_iff.2 fun e he => by
  obtain ⟨c, _, rfl⟩ := List.mem_map.1 he; rfl
theorem Columns_eq (name : ByteArray) (cols : List Co) (rows : List (List Dat)) (s : List UInt8) (hl : cols.length ≤ 1000000) (γ : Type) (K : List (List Dat) → Option γ) :
    Sp.catalog_Columns name (cols.map encC) rows (mk s) γ K = K ((cols.map (withTab s)).map encC) := by
  unfold Sp.catalog_Columns
  rw [sized_cols, List.length_map, decide_eq_true hl, Bool.and_self, cond_true, List.map_map, List.map_map]
  rfl
theorem ref_cols_loop (s : List UInt8) (cols : List Co) (hl : cols.length ≤ 1000000) (w0 : ByteArray) (w2 : List (List Dat)) (γ : Type) (K : Ex → List (List Dat) → Int → ByteArray → List (List Dat) → List (List Dat) → Option γ) :
    ∀ (d i n : Nat), cols.length = i + d → d < n → Sp.ref13_Columns_L0 n (mk s) (((cols.take i).map (withTab s)).map encC) (i : Int) w0 (cols.map encC) w2 γ K = K (Ex.exit 0) ((cols.map (withTab s)).map encC) (cols.length : Int) w0 (cols.map encC) w2 := by
  intro d
  induction d with
  | zero =>
    intro i n hi hn
    obtain ⟨n, rfl⟩ : ∃ m, n = m + 1 := ⟨n - 1, by omega⟩
    obtain rfl : i = cols.length := by omega
    unfold Sp.ref13_Columns_L0 Sp.B_ref13_Columns_L0
    rw [sized_cols, cond_true, List.length_map, lt_out', cond_false, List.take_length]
  | succ d ih =>
    intro i n hi hn
    obtain ⟨n, rfl⟩ : ∃ m, n = m + 1 := ⟨n - 1, by omega⟩
    have hlt : i < cols.length := by omega
    have ha : cols[i]? = some cols[i] := List.getElem?_eq_getElem hlt
    unfold Sp.ref13_Columns_L0 Sp.B_ref13_Columns_L0
    rw [sized_cols, cond_true, List.length_map, lt_in' hlt, cond_true, elem_C ha]
    have hroom : (true && true && true && decide (((((cols.take i).map (withTab s)).map encC).length + 1) * 41 ≤ 70368744177664) && true) = true := by
      simp only [List.length_map, List.length_take, Bool.true_and, Bool.and_true, decide_eq_true_eq]
      omega
    rw [hroom, cond_true, next_small (by omega)]
    have hsn : ((cols.take i).map (withTab s)).map encC ++ [[.str (mk s), .str (mk cols[i].name), .int .i64 cols[i].ty]] = ((cols.take (i + 1)).map (withTab s)).map encC := by
      rw [List.take_succ_eq_append_getElem hlt, List.map_append, List.map_append]; rfl
    rw [hsn]
    exact ih (i + 1) n (by omega) (by omega)
theorem ref_Columns_eq (name : ByteArray) (cols : List Co) (rows : List (List Dat)) (s : List UInt8) (hl : cols.length ≤ 1000000) (γ : Type) (K : List (List Dat) → Option γ) :
    Sp.ref13_Columns name (cols.map encC) rows (mk s) γ K = K ((cols.map (withTab s)).map encC) := by
  unfold Sp.ref13_Columns Sp.B_ref13_Columns
  have h := ref_cols_loop s cols hl name rows γ (fun z6 z7 z8 z9 z10 z11 => bif sized z7 3 then bif Ex.isExit z6 0 then K z7 else bif Ex.isRet z6 then none else none else none) cols.length 0 fuel (by omega) (by unfold fuel; omega)
  refine Eq.trans h ?_
  rw [sized_cols, cond_true]
  rfl

/-! ### their text -/
def kindB (n : Int) : List UInt8 := if n = 1 then [66, 79, 79, 76] else if n = 2 then [73, 78, 84] else if n = 3 then [84, 69, 88, 84] else [63]
theorem kindB_len (n : Int) : (kindB n).length ≤ 4 := by
  unfold kindB
  split
  · exact Nat.le_refl _
  · split
    · decide
    · split <;> decide
theorem kind_eq (n : Int) (γ : Type) (K : ByteArray → Option γ) : Sp.catalog_kind n γ K = K (mk (kindB n)) := by
  unfold Sp.catalog_kind Sp.B_catalog_kind kindB
  by_cases h1 : n = 1
  · subst h1; rfl
  · rw [decide_eq_false h1, if_neg h1, cond_false]
    by_cases h2 : n = 2
    · subst h2; rfl
    · rw [decide_eq_false h2, if_neg h2, cond_false]
      by_cases h3 : n = 3
      · subst h3; rfl
      · rw [decide_eq_false h3, if_neg h3]; rfl
theorem Type_eq (n : Int) (γ : Type) (K : ByteArray → Option γ) : Sp.ref13_Type n γ K = K (mk (kindB n)) := by
  unfold Sp.ref13_Type Sp.B_ref13_Type kindB
  by_cases h1 : n = 1
  · subst h1; rfl
  · rw [decide_eq_false h1, if_neg h1, cond_false]
    by_cases h2 : n = 2
    · subst h2; rfl
    · rw [decide_eq_false h2, if_neg h2, cond_false]
      by_cases h3 : n = 3
      · subst h3; rfl
      · rw [decide_eq_false h3, if_neg h3]; rfl
def colB (c : Co) : List UInt8 := c.name ++ ([32] ++ kindB c.ty)
def strB (l : List UInt8) : List Dat := [.str (mk l)]
theorem sized_str (l : List (List UInt8)) : sized (l.map strB) 1 = true := sized_iff.2 fun e he => by
  obtain ⟨c, _, rfl⟩ := List.mem_map.1 he; rfl
theorem strsOf_str : ∀ l : List (List UInt8), strsOf (l.map strB) = some (l.map mk)
  | [] => rfl
  | a :: l => by
    rw [List.map_cons]
    have := strsOf_str l
    simp only [strB] at this ⊢
    unfold strsOf
    simp [this]
def Short (t : Tb) : Prop := t.name.length ≤ 1048576 ∧ ∀ c ∈ t.cols, c.name.length ≤ 1048576
theorem colB_len {c : Co} (h : c.name.length ≤ 1048576) : (colB c).length ≤ 1048600 := by
  have := kindB_len c.ty
  simp only [colB, List.length_append, List.length_singleton]
  omega
theorem show_loop (cols : List Co) (hl : cols.length ≤ 1000) (hc : ∀ c ∈ cols, c.name.length ≤ 1048576) (w0 : ByteArray) (w1 w2 : List (List Dat)) (γ : Type) (K : Ex → List (List Dat) → Int → ByteArray → List (List Dat) → List (List Dat) → Option γ) :
    ∀ (d i n : Nat), cols.length = i + d → d < n → Sp.catalog_Show_L0 n (cols.map encC) (Int.ofNat cols.length) (((cols.take i).map colB).map strB) (i : Int) w0 w1 w2 γ K = K (Ex.exit 0) ((cols.map colB).map strB) (cols.length : Int) w0 w1 w2 := by
  intro d
  induction d with
  | zero =>
    intro i n hi hn
    obtain ⟨n, rfl⟩ : ∃ m, n = m + 1 := ⟨n - 1, by omega⟩
    obtain rfl : i = cols.length := by omega
    unfold Sp.catalog_Show_L0 Sp.B_catalog_Show_L0
    rw [sized_str, cond_true, lt_out', cond_false, List.take_length]
  | succ d ih =>
    intro i n hi hn
    obtain ⟨n, rfl⟩ : ∃ m, n = m + 1 := ⟨n - 1, by omega⟩
    have hlt : i < cols.length := by omega
    have ha : cols[i]? = some cols[i] := List.getElem?_eq_getElem hlt
    have hcn := hc _ (List.getElem_mem hlt)
    have hk := kindB_len cols[i].ty
    unfold Sp.catalog_Show_L0 Sp.B_catalog_Show_L0
    rw [sized_str, cond_true, lt_in' hlt, cond_true, elem_C ha, size_mk, decide_eq_true (by omega), cond_true, kind_eq]
    have e1 : mk cols[i].name ++ bs [32] = mk (cols[i].name ++ [32]) := by rw [bs_mk, mk_append]; rfl
    rw [e1, size_mk, size_mk, decide_eq_true (by simp only [List.length_append, List.length_singleton]; omega), cond_true]
    have hroom : (true && true && true && decide (((((cols.take i).map colB).map strB).length + 1) * 17 ≤ 70368744177664) && true) = true := by
      simp only [List.length_map, List.length_take, Bool.true_and, Bool.and_true, decide_eq_true_eq]
      omega
    rw [hroom, cond_true, next_small (by omega)]
    have hsn : ((cols.take i).map colB).map strB ++ [[.str (mk (cols[i].name ++ [32]) ++ mk (kindB cols[i].ty))]] = ((cols.take (i + 1)).map colB).map strB := by
      rw [List.take_succ_eq_append_getElem hlt, List.map_append, List.map_append, mk_append, List.append_assoc]; rfl
    rw [hsn]
    exact ih (i + 1) n (by omega) (by omega)
def joinB (l : List (List UInt8)) : List UInt8 := Lib.join l [44, 32]
theorem joinB_snoc (l : List (List UInt8)) (a : List UInt8) : joinB (l ++ [a]) = if l = [] then a else joinB l ++ ([44, 32] ++ a) := by
  cases l with
  | nil => exact Lib.join_one _ _
  | cons x r =>
    rw [if_neg (by simp)]
    unfold joinB
    rw [List.cons_append, Lib.join_cons, Lib.join_cons]
    simp [Lib.joinTail]
theorem lens_le : ∀ l : List (List UInt8), (∀ a ∈ l, a.length ≤ 1048600) → Lib.lens l ≤ 1048600 * l.length
  | [], _ => Nat.zero_le _
  | a :: l, h => by
    have h1 := h a (by simp)
    have h2 := lens_le l fun x hx => h x (by simp [hx])
    have h3 : Lib.lens (a :: l) = a.length + Lib.lens l := by simp [Lib.lens]
    rw [h3, List.length_cons]
    omega
theorem joinB_len (l : List (List UInt8)) (h : ∀ a ∈ l, a.length ≤ 1048600) : (joinB l).length ≤ 1048602 * l.length := by
  cases l with
  | nil => exact Nat.zero_le _
  | cons x r =>
    have := lens_le (x :: r) h
    unfold joinB
    rw [Lib.join_length]
    simp only [List.length_cons, List.length_nil] at this ⊢
    omega
theorem cat_mk (a b : List UInt8) : mk a ++ mk b = mk (a ++ b) := mk_append a b
theorem show_step (s : List UInt8) (a : List UInt8) (k : Int) : mk s ++ mk a ++ bs [32] ++ mk (kindB k) = mk (s ++ (a ++ ([32] ++ kindB k))) := by
  rw [bs_mk, mk_append, mk_append, mk_append]
  simp
def headB (t : Tb) (j : List UInt8) : List UInt8 := t.name ++ ([40] ++ j)
theorem ref_show_loop (t : Tb) (hl : t.cols.length ≤ 1000) (hs : Short t) (w0 : ByteArray) (w2 : List (List Dat)) (γ : Type) (K : Ex → ByteArray → Int → ByteArray → List (List Dat) → List (List Dat) → Option γ) :
    ∀ (d i n : Nat), t.cols.length = i + d → d < n → Sp.ref13_Show_L0 n (mk (headB t (joinB ((t.cols.take i).map colB)))) (i : Int) w0 (t.cols.map encC) w2 γ K = K (Ex.exit 0) (mk (headB t (joinB (t.cols.map colB)))) (t.cols.length : Int) w0 (t.cols.map encC) w2 := by
  intro d
  induction d with
  | zero =>
    intro i n hi hn
    obtain ⟨n, rfl⟩ : ∃ m, n = m + 1 := ⟨n - 1, by omega⟩
    obtain rfl : i = t.cols.length := by omega
    unfold Sp.ref13_Show_L0 Sp.B_ref13_Show_L0
    rw [List.length_map, lt_out', cond_false, List.take_length]
  | succ d ih =>
    intro i n hi hn
    obtain ⟨n, rfl⟩ : ∃ m, n = m + 1 := ⟨n - 1, by omega⟩
    have hlt : i < t.cols.length := by omega
    have ha : t.cols[i]? = some t.cols[i] := List.getElem?_eq_getElem hlt
    have hcn := hs.2 _ (List.getElem_mem hlt)
    have hk := kindB_len t.cols[i].ty
    have hjl : (joinB ((t.cols.take i).map colB)).length ≤ 1048602 * 1000 := by
      refine Nat.le_trans (joinB_len _ fun a ha => ?_) ?_
      · obtain ⟨c, hc, rfl⟩ := List.mem_map.1 ha
        exact colB_len (hs.2 c (List.mem_of_mem_take hc))
      · rw [List.length_map, List.length_take]; exact Nat.mul_le_mul_left _ (by omega)
    have hhl : (headB t (joinB ((t.cols.take i).map colB))).length ≤ 1048602 * 1001 := by
      have := hs.1
      simp only [headB, List.length_append, List.length_singleton]
      omega
    have hsn : joinB ((t.cols.take (i + 1)).map colB) = if i = 0 then colB t.cols[i] else joinB ((t.cols.take i).map colB) ++ ([44, 32] ++ colB t.cols[i]) := by
      rw [List.take_succ_eq_append_getElem hlt, List.map_append, List.map_singleton, joinB_snoc]
      by_cases h0 : i = 0
      · rw [if_pos h0, if_pos (by rw [h0]; rfl)]
      · rw [if_neg h0, if_neg (fun e => h0 (by
          have := congrArg List.length e
          rw [List.length_map, List.length_take, List.length_nil] at this
          omega))]
    have hrec := ih (i + 1) n (by omega) (by omega)
    rw [hsn] at hrec
    unfold Sp.ref13_Show_L0 Sp.B_ref13_Show_L0
    rw [List.length_map, lt_in' hlt, cond_true, elem_C1 ha, elem_C1 ha, elem_C2 ha, elem_C2 ha]
    have hb32 : bs [32] = mk [32] := rfl
    have hb44 : bs [44, 32] = mk [44, 32] := rfl
    by_cases h0 : i = 0
    · subst h0
      rw [if_pos rfl] at hrec
      rw [decide_eq_false (show ¬ (0 : Int) < ((0 : Nat) : Int) by omega), cond_false, hb32, cat_mk, cat_mk, size_mk, size_mk, size_mk, size_mk, decide_eq_true (by omega), decide_eq_true (by simp only [List.length_append]; omega), cond_true, cond_true, Type_eq, size_mk, decide_eq_true (by simp only [List.length_append, List.length_singleton]; omega), cond_true, cat_mk, next_small (by omega)]
      have e : headB t (joinB ((t.cols.take 0).map colB)) ++ t.cols[0].name ++ ([32] : List UInt8) ++ kindB t.cols[0].ty = headB t (colB t.cols[0]) := by
        show headB t [] ++ t.cols[0].name ++ ([32] : List UInt8) ++ kindB t.cols[0].ty = _
        simp [headB, colB]
      rw [e]
      exact hrec
    · rw [if_neg h0] at hrec
      rw [decide_eq_true (show (0 : Int) < (i : Int) by omega), cond_true, hb44, hb32, cat_mk, cat_mk, cat_mk, size_mk, size_mk, size_mk, size_mk, size_mk, decide_eq_true (by omega), decide_eq_true (by simp only [List.length_append, List.length_cons, List.length_nil]; omega), decide_eq_true (by simp only [List.length_append, List.length_cons, List.length_nil]; omega), cond_true, cond_true, cond_true, Type_eq, size_mk, decide_eq_true (by simp only [List.length_append, List.length_cons, List.length_nil]; omega), cond_true, cat_mk, next_small (by omega)]
      have e : headB t (joinB ((t.cols.take i).map colB)) ++ ([44, 32] : List UInt8) ++ t.cols[i].name ++ ([32] : List UInt8) ++ kindB t.cols[i].ty = headB t (joinB ((t.cols.take i).map colB) ++ ([44, 32] ++ colB t.cols[i])) := by
        simp [headB, colB]
      rw [e]
      exact hrec
def textB (t : Tb) : List UInt8 := headB t (joinB (t.cols.map colB)) ++ [41]
theorem Show_eq (t : Tb) (hl : t.cols.length ≤ 1000) (hs : Short t) (w2 : List (List Dat)) (γ : Type) (K : ByteArray → Option γ) : Sp.catalog_Show (mk t.name) (t.cols.map encC) w2 γ K = K (mk (textB t)) := by
  unfold Sp.catalog_Show Sp.B_catalog_Show
  rw [List.length_map]
  have h := show_loop t.cols hl hs.2 (mk t.name) (t.cols.map encC) w2 γ (fun z5 z6 z7 z8 z9 z10 => bif sized z6 1 then bif Ex.isExit z5 0 then bif decide (ByteArray.size z8 + 1 ≤ 1152921504606846976) then Sp.strings_Join z6 (bs [44, 32]) γ fun z11 => bif decide (ByteArray.size (z8 ++ bs [40]) + ByteArray.size z11 ≤ 1152921504606846976) then bif decide (ByteArray.size (z8 ++ bs [40] ++ z11) + 1 ≤ 1152921504606846976) then K (z8 ++ bs [40] ++ z11 ++ bs [41]) else none else none else none else bif Ex.isRet z5 then none else none else none) t.cols.length 0 fuel (by omega) (by unfold fuel; omega)
  refine Eq.trans h ?_
  have hall : ∀ a ∈ t.cols.map colB, a.length ≤ 1048600 := fun a ha => by
    obtain ⟨c, hc, rfl⟩ := List.mem_map.1 ha
    exact colB_len (hs.2 c hc)
  have hjl : (joinB (t.cols.map colB)).length ≤ 1048602 * 1000 := by
    refine Nat.le_trans (joinB_len _ hall) ?_
    rw [List.length_map]; exact Nat.mul_le_mul_left _ hl
  have hn := hs.1
  have hb40 : bs [40] = mk [40] := rfl
  have hb41 : bs [41] = mk [41] := rfl
  rw [sized_str, cond_true]
  simp only [Ex.isExit, beq_self_eq_true, cond_true]
  rw [size_mk, decide_eq_true (by omega), cond_true]
  unfold Sp.strings_Join
  rw [strsOf_str, Option.bind_some]
  have hj : Lib.join (((t.cols.map colB).map mk).map (·.data.toList)) (bs [44, 32]).data.toList = joinB (t.cols.map colB) := by
    have h1 : ((t.cols.map colB).map mk).map (fun x : ByteArray => x.data.toList) = t.cols.map colB := by
      rw [List.map_map]
      have : ((fun x : ByteArray => x.data.toList) ∘ mk) = id := by funext x; simp
      rw [this, List.map_id]
    rw [h1]
    rfl
  rw [hj]
  have d1 : (decide (((t.cols.map colB).map mk).length ≤ 140737488355328) && decide ((joinB (t.cols.map colB)).length ≤ 140737488355328)) = true := by
    simp only [Bool.and_eq_true, decide_eq_true_eq, List.length_map]
    omega
  rw [d1, cond_true, show (⟨(joinB (t.cols.map colB)).toArray⟩ : ByteArray) = mk (joinB (t.cols.map colB)) from rfl, hb40, hb41]
  dsimp only
  rw [cat_mk, cat_mk, cat_mk, size_mk, size_mk, size_mk, decide_eq_true (by simp only [List.length_append, List.length_singleton]; omega), decide_eq_true (by simp only [List.length_append, List.length_singleton]; omega), cond_true, cond_true]
  congr 2
  simp [textB, headB]
theorem ref_Show_eq (t : Tb) (hl : t.cols.length ≤ 1000) (hs : Short t) (w2 : List (List Dat)) (γ : Type) (K : ByteArray → Option γ) : Sp.ref13_Show (mk t.name) (t.cols.map encC) w2 γ K = K (mk (textB t)) := by
  unfold Sp.ref13_Show Sp.B_ref13_Show
  have hn := hs.1
  have hb40 : bs [40] = mk [40] := rfl
  have hb41 : bs [41] = mk [41] := rfl
  rw [size_mk, decide_eq_true (by omega), cond_true, hb40, cat_mk]
  have h := ref_show_loop t hl hs (mk t.name) w2 γ (fun z5 z6 z7 z8 z9 z10 => bif Ex.isExit z5 0 then bif decide (ByteArray.size z6 + 1 ≤ 1152921504606846976) then K (z6 ++ bs [41]) else none else bif Ex.isRet z5 then none else none) t.cols.length 0 fuel (by omega) (by unfold fuel; omega)
  have e0 : headB t (joinB ((t.cols.take 0).map colB)) = t.name ++ [40] := by
    show headB t [] = _
    simp [headB]
  rw [e0] at h
  refine Eq.trans h ?_
  have hjl : (joinB (t.cols.map colB)).length ≤ 1048602 * 1000 := by
    refine Nat.le_trans (joinB_len _ fun a ha => ?_) ?_
    · obtain ⟨c, hc, rfl⟩ := List.mem_map.1 ha
      exact colB_len (hs.2 c hc)
    · rw [List.length_map]; exact Nat.mul_le_mul_left _ hl
  simp only [Ex.isExit, beq_self_eq_true, cond_true]
  rw [size_mk, decide_eq_true (by simp only [headB, List.length_append, List.length_singleton]; omega), cond_true, hb41, cat_mk]
  rfl

/-! ### two catalogs of one table -/
theorem Same_eq (a b : List Tb) (hl : a.length ≤ 1000) (ha : ∀ t ∈ a, t.Fine) (hb : ∀ t ∈ b, t.Fine) (γ : Type) (K : Bool → Option γ) :
    Sp.catalog_Same (a.map encT) (b.map encT) γ K = K (decide (a.length = b.length) && !(a.zip b).any fun x => !sameT x.1 x.2) := by
  unfold Sp.catalog_Same Sp.B_catalog_Same Sp.slices_EqualFunc_api_Table_api_Table_api_Table_api_Table Sp.B_slices_EqualFunc_api_Table_api_Table_api_Table_api_Table
  rw [List.length_map, List.length_map]
  by_cases hlen : a.length = b.length
  case neg => rw [decide_eq_false (show ¬ Int.ofNat a.length = Int.ofNat b.length by simp only [Int.ofNat_eq_natCast]; omega), decide_eq_false hlen]; rfl
  rw [decide_eq_true (show Int.ofNat a.length = Int.ofNat b.length by rw [hlen]), decide_eq_true hlen, Bool.not_true, cond_false, Bool.true_and]
  have hz : (a.zip b).length = a.length := by rw [List.length_zip, hlen, Nat.min_self]
  refine (scan_any (a.zip b) (fun x => !sameT x.1 x.2) (fun n i => Sp.slices_EqualFunc_api_Table_api_Table_api_Table_api_Table_L0 n (b.map encT) (a.map encT) (Int.ofNat a.length) false (i : Int) γ _) (K false) (K true) (fun n i x hx hi => ?_) (fun n => ?_) fuel (by unfold fuel; omega)).trans ?_
  · obtain ⟨h1, h2⟩ := zip_get hx
    conv => lhs; unfold Sp.slices_EqualFunc_api_Table_api_Table_api_Table_api_Table_L0 Sp.B_slices_EqualFunc_api_Table_api_Table_api_Table_api_Table_L0
    rw [lt_in' (l := a) (by omega), cond_true, elem_T h1, elem_T h2, same_eq _ _ (ha x.1 (List.mem_of_getElem? h1)) (hb x.2 (List.mem_of_getElem? h2)), next_small (by omega)]
    cases sameT x.1 x.2 <;> rfl
  · rw [hz]
    conv => lhs; unfold Sp.slices_EqualFunc_api_Table_api_Table_api_Table_api_Table_L0 Sp.B_slices_EqualFunc_api_Table_api_Table_api_Table_api_Table_L0
    rw [lt_out', cond_false]
    rfl
  · cases (a.zip b).any fun x => !sameT x.1 x.2 <;> rfl
theorem Same_one (t u : Tb) (ht : t.Fine) (hu : u.Fine) (γ : Type) (K : Bool → Option γ) :
    Sp.catalog_Same [[.str (mk t.name), .sl (t.cols.map encC), .sl (t.rows.map lEnc)]] [[.str (mk u.name), .sl (u.cols.map encC), .sl (u.rows.map lEnc)]] γ K = K (sameT t u) := by
  have hs := Same_eq [t] [u] (by simp) (fun x hx => by rw [List.mem_singleton.1 hx]; exact ht) (fun x hx => by rw [List.mem_singleton.1 hx]; exact hu) γ K
  refine Eq.trans (show _ = Sp.catalog_Same ([t].map encT) ([u].map encT) γ K from rfl) (hs.trans ?_)
  simp
theorem ref_Same_one (t u : Tb) (ht : t.Fine) (hu : u.Fine) (γ : Type) (K : Bool → Option γ) :
    Sp.ref13_Same [[.str (mk t.name), .sl (t.cols.map encC), .sl (t.rows.map lEnc)]] [[.str (mk u.name), .sl (u.cols.map encC), .sl (u.rows.map lEnc)]] γ K = K (sameT t u) := by
  have hs := ref_Same_eq [t] [u] (by simp) (fun x hx => by rw [List.mem_singleton.1 hx]; exact ht) (fun x hx => by rw [List.mem_singleton.1 hx]; exact hu) γ K
  refine Eq.trans (show _ = Sp.ref13_Same ([t].map encT) ([u].map encT) γ K from rfl) (hs.trans ?_)
  simp
theorem law_Tables (lives : ∀ (γ : Type) (K : Bool → Option γ), Sp.law13_lives γ K = K true) (t u : Tb) (hs : Short t) (hsu : Short u) (nm : List UInt8) (r : List Vl) (γ : Type) (K : Bool → Option γ) :
    Sp.law13_CatalogTables (mk t.name) (t.cols.map encC) (t.rows.map lEnc) (mk u.name) (u.cols.map encC) (u.rows.map lEnc) (mk nm) (r.map Vl.enc) γ K = K true := by
  unfold Sp.law13_CatalogTables Sp.B_law13_CatalogTables
  have hL := Large_eq [t, u] γ
  rw [show [[Dat.str (mk t.name), .sl (t.cols.map encC), .sl (t.rows.map lEnc)], [.str (mk u.name), .sl (u.cols.map encC), .sl (u.rows.map lEnc)]] = [t, u].map encT from rfl, hL]
  cases hl : largeC [t, u] with
  | true => rw [cond_true, lives]
  | false =>
    have hn : ∀ x ∈ [t, u], x.Named := fun x hx => by
      rcases List.mem_cons.1 hx with rfl | hx
      · exact ⟨by have := hs.1; omega, fun c hc => by have := hs.2 c hc; omega⟩
      · rw [List.mem_singleton.1 hx]
        exact ⟨by have := hsu.1; omega, fun c hc => by have := hsu.2 c hc; omega⟩
    obtain ⟨_, hf⟩ := large_false hn hl
    have ht := hf t (by simp)
    have hu := hf u (by simp)
    have hcl : t.cols.length ≤ 1000 := by
      simp only [largeC, Bool.or_eq_false_iff] at hl
      have := (List.any_eq_false.1 hl.2) t (by simp)
      simp only [bigT, Bool.or_eq_true, decide_eq_true_eq, not_or] at this
      omega
    rw [cond_false, size_mk]
    cases decide (1000 < Int.ofNat nm.length) with
    | true => rw [cond_true, lives]
    | false =>
      rw [cond_false, List.length_map]
      by_cases hr : 100 < r.length
      · rw [decide_eq_true (show 100 < Int.ofNat r.length by simp only [Int.ofNat_eq_natCast]; omega), cond_true, lives]
      · rw [decide_eq_false (show ¬ 100 < Int.ofNat r.length by simp only [Int.ofNat_eq_natCast]; omega), cond_false, lives, cond_true, Columns_eq _ _ _ _ ht.ncols, ref_Columns_eq _ _ _ _ ht.ncols, SameColumns_eq _ _ (by rw [List.length_map]; exact ht.ncols), decide_eq_true rfl, cond_true,
          Show_eq t hcl hs, ref_Show_eq t hcl hs, decide_eq_true rfl, cond_true, Fits_eq _ _ (by omega), ref_Fits_eq _ _ (by omega), beq_self_eq_true, cond_true, Same_one t u ht hu, ref_Same_one t u ht hu, beq_self_eq_true]
end Go.Proofs.YtimdilbcijgadaaGreatDoor

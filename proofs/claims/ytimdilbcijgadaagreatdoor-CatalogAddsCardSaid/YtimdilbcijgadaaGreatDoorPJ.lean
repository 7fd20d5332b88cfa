/- Tables whose rows stand in another order; a catalog with a table more: the plain laws. -/
import Derived.Test.YtimdilbcijgadaaGreatDoorPH
set_option linter.unusedVariables false
set_option linter.unusedSimpArgs false
namespace Go.Proofs.YtimdilbcijgadaaGreatDoor
open Go Go.Aev Go.RowKit Go.Sort

theorem sized_any {α : Type} (f : α → List Dat) (n : Nat) (h : ∀ a, (f a).length = n) (l : List α) : sized (l.map f) n = true := by
  unfold sized
  simp [h]
theorem sized_rows (l : List (List Vl)) : sized (l.map lEnc) 1 = true := sized_any lEnc 1 (fun _ => rfl) l
theorem sized_tabs (l : List Tb) : sized (l.map encT) 3 = true := sized_any encT 3 (fun _ => rfl) l
theorem sort_perm {l m : List (List Vl)} (h : l.Perm m) : sortBy R.cmp l = sortBy R.cmp m :=
  sortBy_one R.ord (fun _ _ => trivial) ((sortBy_perm R.cmp l).trans h) (sortBy_up R.ord l fun _ _ => trivial)
theorem turned (l : List (List Vl)) (k : Nat) : (l.drop k ++ l.take k).Perm l := by
  have h := @List.perm_append_comm _ (l.drop k) (l.take k)
  rwa [List.take_append_drop] at h
theorem Same_tabs (a b : List Tb) (hl : a.length ≤ 1000) (ha : ∀ t ∈ a, t.Fine) (hb : ∀ t ∈ b, t.Fine) (γ : Type) (K : Bool → Option γ) :
    Sp.catalog_Same (a.map encT) (b.map encT) γ K = K (decide (a.length = b.length) && !(a.zip b).any fun x => !sameT x.1 x.2) := by
  unfold Sp.catalog_Same Sp.B_catalog_Same Sp.slices_EqualFunc_api_Table_api_Table_api_Table_api_Table Sp.B_slices_EqualFunc_api_Table_api_Table_api_Table_api_Table
  rw [List.length_map, List.length_map]
  by_cases hlen : a.length = b.length
  case neg => rw [decide_eq_false (show ¬ Int.ofNat a.length = Int.ofNat b.length by simp only [Int.ofNat_eq_natCast]; omega), decide_eq_false hlen]; rfl
  rw [decide_eq_true (show Int.ofNat a.length = Int.ofNat b.length by rw [hlen]), decide_eq_true hlen, Bool.not_true, cond_false, Bool.true_and]
  have hz : (a.zip b).length = a.length := by rw [List.length_zip, hlen, Nat.min_self]
  refine (scan_any (a.zip b) (fun x => !sameT x.1 x.2) (fun n i => Sp.slices_EqualFunc_api_Table_api_Table_api_Table_api_Table_L0 n (b.map encT) (a.map encT) (Int.ofNat a.length) false (i : Int) γ _) (K false) (K true) (fun n i x hx hi => ?_) (fun n => ?_) fuel (by unfold fuel; omega)).trans ?_
  · obtain ⟨h1, h2⟩ := zip_get hx
    conv => lhs; unfold Sp.slices_EqualFunc_api_Table_api_Table_api_Table_api_Table_L0 Sp.B_slices_EqualFunc_api_Table_api_Table_api_Table_api_Table_L0
    rw [lt_in' (l := a) (by omega), cond_true, elem_T h1, elem_T h2, same_eq _ _ (ha x.1 (List.mem_of_getElem? h1)) (hb x.2 (List.mem_of_getElem? h2)), next_small (by omega)]
    cases sameT x.1 x.2 <;> rfl
  · rw [hz]
    conv => lhs; unfold Sp.slices_EqualFunc_api_Table_api_Table_api_Table_api_Table_L0 Sp.B_slices_EqualFunc_api_Table_api_Table_api_Table_api_Table_L0
    rw [lt_out', cond_false]
    rfl
  · cases (a.zip b).any fun x => !sameT x.1 x.2 <;> rfl
theorem Same_turned (t : Tb) (ht : t.Fine) (m : List (List Vl)) (hm : m.Perm t.rows) (γ : Type) (K : Bool → Option γ) :
    Sp.catalog_Same [[.str (mk t.name), .sl (t.cols.map encC), .sl (t.rows.map lEnc)]] [[.str (mk t.name), .sl (t.cols.map encC), .sl (m.map lEnc)]] γ K = K true := by
  have hu : Tb.Fine ⟨t.name, t.cols, m⟩ := ⟨ht.name, ht.cols, ht.ncols, by rw [hm.length_eq]; exact ht.nrows, fun r hr => ht.rows r (hm.mem_iff.1 hr)⟩
  have hs := Same_tabs [t] [⟨t.name, t.cols, m⟩] (by simp) (fun x hx => by rw [List.mem_singleton.1 hx]; exact ht) (fun x hx => by rw [List.mem_singleton.1 hx]; exact hu) γ K
  refine Eq.trans (show _ = Sp.catalog_Same ([t].map encT) ([⟨t.name, t.cols, m⟩].map encT) γ K from rfl) (hs.trans ?_)
  simp [sameT, sort_perm hm]

theorem self_room {X : List (List Dat)} (hs : sized X 1 = true) : (decide (Int.ofNat X.length ≤ Int.ofNat X.length) && true && sized X 1) = true := by
  rw [hs, decide_eq_true (Int.le_refl _)]; rfl
theorem roomQ1 {X : List (List Dat)} (hs : sized X 1 = true) (hl : X.length ≤ 6000) : (sized X 1 && true && decide ((0 + X.length) * 25 ≤ 70368744177664) && true) = true := by
  rw [hs, decide_eq_true (by omega)]; rfl
theorem roomQ2 {X Y : List (List Dat)} (hs : sized X 1 = true) (hy : sized Y 1 = true) (hl : X.length ≤ 6000) (hl' : Y.length ≤ 6000) : (sized X 1 && sized Y 1 && true && decide ((X.length + Y.length) * 25 ≤ 70368744177664) && true) = true := by
  rw [hs, hy, decide_eq_true (by omega)]; rfl
theorem roomQ3 {X : List (List Dat)} (hs : sized X 1 = true) (hl : X.length ≤ 6000) : (sized X 1 && true && true && decide ((X.length + 0) * 25 ≤ 70368744177664) && true) = true := by
  rw [hs, decide_eq_true (by omega)]; rfl
theorem law_Orders (lives : ∀ (γ : Type) (K : Bool → Option γ), Sp.law13_lives γ K = K true) (t : Tb) (hn : t.Named) (n : Int) (γ : Type) (K : Bool → Option γ) :
    Sp.law13_CatalogOrders (mk t.name) (t.cols.map encC) (t.rows.map lEnc) n γ K = K true := by
  unfold Sp.law13_CatalogOrders Sp.B_law13_CatalogOrders
  have hL := Large_eq [t] γ
  rw [show [[Dat.str (mk t.name), .sl (t.cols.map encC), .sl (t.rows.map lEnc)]] = [t].map encT from rfl, hL]
  cases hl : largeC [t] with
  | true => rw [cond_true, lives]
  | false =>
    obtain ⟨_, hf⟩ := large_false (fun x hx => by rw [List.mem_singleton.1 hx]; exact hn) hl
    have ht := hf t (by simp)
    have hr := ht.nrows
    have hv : (t.rows.map lEnc).length = t.rows.length := List.length_map ..
    have s0 := sized_rows t.rows
    have s1 : sized ([] ++ t.rows.map lEnc) 1 = true := s0
    have l0 : (t.rows.map lEnc).length ≤ 6000 := by rw [hv]; exact hr
    have l1 : ([] ++ t.rows.map lEnc).length ≤ 6000 := l0
    have eX : List.drop 0 (List.take (Int.toNat (Int.ofNat (t.rows.map lEnc).length)) (t.rows.map lEnc)) = t.rows.map lEnc := by
      rw [List.drop_zero]; exact List.take_length
    have h0 := Same_turned t ht t.rows (List.Perm.refl _) γ K
    rw [cond_false, show [t].map encT = [[Dat.str (mk t.name), .sl (t.cols.map encC), .sl (t.rows.map lEnc)]] from rfl]
    by_cases hp : 0 < t.rows.length
    case neg =>
      rw [decide_eq_false (show ¬ (0 : Int) < Int.ofNat (t.rows.map lEnc).length by simp only [Int.ofNat_eq_natCast]; omega), cond_false, self_room s0, cond_true, eX, roomQ1 s0 l0, cond_true, roomQ3 s1 l1, cond_true, lives, cond_true, List.nil_append, List.append_nil]
      exact h0
    rw [decide_eq_true (show (0 : Int) < Int.ofNat (t.rows.map lEnc).length by simp only [Int.ofNat_eq_natCast]; omega), cond_true, decide_eq_false (show ¬ Int.ofNat (t.rows.map lEnc).length = 0 by simp only [Int.ofNat_eq_natCast]; omega), Bool.not_false, cond_true]
    by_cases hk : Int.tmod n (Int.ofNat (t.rows.map lEnc).length) < 0
    · rw [decide_eq_true hk, cond_true, self_room s0, cond_true, eX, roomQ1 s0 l0, cond_true, roomQ3 s1 l1, cond_true, lives, cond_true, List.nil_append, List.append_nil]
      exact h0
    · have hlt : Int.tmod n (Int.ofNat (t.rows.map lEnc).length) < Int.ofNat (t.rows.map lEnc).length := Int.tmod_lt_of_pos n (by simp only [Int.ofNat_eq_natCast]; omega)
      rw [decide_eq_false hk, cond_false]
      generalize Int.tmod n (Int.ofNat (t.rows.map lEnc).length) = q at hk hlt ⊢
      obtain ⟨k, rfl⟩ : ∃ k : Nat, q = (k : Int) := ⟨q.toNat, by omega⟩
      have hkl : k ≤ t.rows.length := by simp only [Int.ofNat_eq_natCast] at hlt; omega
      have eA : List.drop (Int.toNat (k : Int)) (List.take (Int.toNat (Int.ofNat (t.rows.map lEnc).length)) (t.rows.map lEnc)) = (t.rows.drop k).map lEnc := by
        rw [List.map_drop]
        exact congrArg (List.drop k) List.take_length
      have eB : List.drop 0 (List.take (Int.toNat (k : Int)) (t.rows.map lEnc)) = (t.rows.take k).map lEnc := by
        rw [List.drop_zero, List.map_take]
        rfl
      have sA := sized_rows (t.rows.drop k)
      have sA' : sized ([] ++ (t.rows.drop k).map lEnc) 1 = true := sA
      have sB := sized_rows (t.rows.take k)
      have lA : ((t.rows.drop k).map lEnc).length ≤ 6000 := by rw [List.length_map, List.length_drop]; omega
      have lA' : ([] ++ (t.rows.drop k).map lEnc).length ≤ 6000 := lA
      have lB : ((t.rows.take k).map lEnc).length ≤ 6000 := by rw [List.length_map, List.length_take]; omega
      rw [decide_eq_true (show (0 : Int) ≤ (k : Int) by omega), decide_eq_true (show (k : Int) ≤ Int.ofNat (t.rows.map lEnc).length by omega), Bool.true_and, Bool.true_and, self_room s0, cond_true, eA, eB, roomQ1 sA lA, cond_true, Bool.and_true, Bool.and_true, cond_true, roomQ2 sA' sB lA' lB, cond_true, lives, cond_true, List.nil_append, ← List.map_append]
      exact Same_turned t ht _ (turned t.rows k) γ K

/-! ### a catalog with a table more -/
theorem anyAcc_snoc {α : Type} (q : List α → α → Bool) (a : α) : ∀ (l acc : List α), anyAcc q acc (l ++ [a]) = (anyAcc q acc l || q (acc ++ l) a)
  | [], acc => by
    show (q acc a || anyAcc q (acc ++ [a]) []) = (anyAcc q acc [] || q (acc ++ []) a)
    simp [anyAcc]
  | b :: r, acc => by
    rw [List.cons_append, anyAcc, anyAcc, anyAcc_snoc q a r, Bool.or_assoc]
    simp
theorem okC_snoc (c : List Tb) (t : Tb) (hc : okC c = true) : okC (c ++ [t]) = (decide (c.length < 16) && (okT t && (pos t.name c).isNone)) := by
  simp only [okC, Bool.and_eq_true, Bool.not_eq_true'] at hc
  obtain ⟨_, h2, h3⟩ := hc
  unfold okC
  rw [List.any_append, h2, anyAcc_snoc, h3]
  have hd : dup Tb.name ([] ++ c) t = (pos t.name c).isSome := by
    unfold dup pos
    rw [find_any, List.nil_append]
  rw [hd, List.length_append, List.length_singleton, show decide (c.length + 1 ≤ 16) = decide (c.length < 16) from decide_eq_decide.2 (by omega)]
  simp only [List.any_cons, List.any_nil, Bool.false_or, Bool.or_false, Bool.not_not]
  cases pos t.name c <;> rfl
theorem law_Adds (lives : ∀ (γ : Type) (K : Bool → Option γ), Sp.law13_lives γ K = K true) (c : List Tb) (hn : ∀ t ∈ c, t.Named) (t : Tb) (htn : t.Named) (γ : Type) (K : Bool → Option γ) :
    Sp.law13_CatalogAdds (c.map encT) (mk t.name) (t.cols.map encC) (t.rows.map lEnc) γ K = K true := by
  unfold Sp.law13_CatalogAdds Sp.B_law13_CatalogAdds
  rw [Large_eq]
  cases hL : largeC c with
  | true => rw [cond_true, lives]
  | false =>
    obtain ⟨hl, hf⟩ := large_false hn hL
    have hl' : c.length ≤ 1000 := by omega
    rw [cond_false, show [[Dat.str (mk t.name), .sl (t.cols.map encC), .sl (t.rows.map lEnc)]] = [t].map encT from rfl, Large_eq]
    cases hL2 : largeC [t] with
    | true => rw [cond_true, lives]
    | false =>
      obtain ⟨_, hf2⟩ := large_false (fun x hx => by rw [List.mem_singleton.1 hx]; exact htn) hL2
      have ht := hf2 t (by simp)
      rw [cond_false, ref_Check_eq c hl' hf]
      cases hc : okC c with
      | false => rw [Bool.not_false, cond_true, lives]
      | true =>
        rw [Bool.not_true, cond_false, List.nil_append, ← List.map_append]
        have hff : ∀ x ∈ c ++ [t], x.Fine := fun x hx => by
          rcases List.mem_append.1 hx with h | h
          · exact hf x h
          · rw [List.mem_singleton.1 h]; exact ht
        have d16 : decide (Int.ofNat c.length < 16) = decide (c.length < 16) := decide_eq_decide.2 ⟨fun h => by simp only [Int.ofNat_eq_natCast] at h; omega, fun h => by simp only [Int.ofNat_eq_natCast]; omega⟩
        simp only [sized_tabs, List.length_map, Bool.true_and, Bool.and_true]
        rw [decide_eq_true (by omega), decide_eq_true (by omega), cond_true, cond_true, Check_eq (c ++ [t]) (by simp; omega) hff, okC_snoc c t hc, d16]
        cases hp : pos t.name c with
        | none =>
          rw [find_none hl' hp, lives, cond_true, Table_eq t ht]
          cases decide (c.length < 16) <;> cases okT t <;> rfl
        | some k =>
          obtain ⟨x, hx, hk⟩ := pos_some hp
          rw [find_some hl' hp hx, lives, cond_true, Table_eq t ht]
          cases decide (c.length < 16) <;> cases okT t <;> rfl
end Go.Proofs.YtimdilbcijgadaaGreatDoor

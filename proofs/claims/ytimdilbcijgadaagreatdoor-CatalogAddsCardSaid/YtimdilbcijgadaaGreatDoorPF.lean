/- Tables and catalogs that may be: the program's answers are the reference's. -/
import Derived.Test.YtimdilbcijgadaaGreatDoorPE
set_option linter.unusedVariables false
set_option linter.unusedSimpArgs false
namespace Go.Proofs.YtimdilbcijgadaaGreatDoor
open Go Go.Aev Go.RowKit Go.Sort

/-! ### conditions that look at what stands ahead -/
def anyAcc {α : Type} (q : List α → α → Bool) : List α → List α → Bool
  | _, [] => false
  | acc, a :: r => q acc a || anyAcc q (acc ++ [a]) r
theorem scan_acc {α γ : Type} (l : List α) (q : List α → α → Bool) (f : Nat → Nat → Option γ) (X E : Option γ)
    (hs : ∀ n i a, l[i]? = some a → i < l.length → f (n + 1) i = cond (q (l.take i) a) X (f n (i + 1))) (he : ∀ n, f (n + 1) l.length = E) :
    ∀ (d i n : Nat), l.length = i + d → d < n → f n i = cond (anyAcc q (l.take i) (l.drop i)) X E := by
  intro d
  induction d with
  | zero =>
    intro i n hi hn
    obtain ⟨n, rfl⟩ : ∃ m, n = m + 1 := ⟨n - 1, by omega⟩
    obtain rfl : i = l.length := by omega
    rw [he, List.drop_eq_nil_of_le (Nat.le_refl _)]
    rfl
  | succ d ih =>
    intro i n hi hn
    obtain ⟨n, rfl⟩ : ∃ m, n = m + 1 := ⟨n - 1, by omega⟩
    have hlt : i < l.length := by omega
    rw [hs n i l[i] (List.getElem?_eq_getElem hlt) hlt, ih (i + 1) n (by omega) (by omega), List.drop_eq_getElem_cons hlt, anyAcc, List.take_succ_eq_append_getElem hlt]
    cases q (l.take i) l[i] <;> rfl
theorem scan_acc0 {α γ : Type} (l : List α) (q : List α → α → Bool) (f : Nat → Nat → Option γ) (X E : Option γ)
    (hs : ∀ n i a, l[i]? = some a → i < l.length → f (n + 1) i = cond (q (l.take i) a) X (f n (i + 1))) (he : ∀ n, f (n + 1) l.length = E) (n : Nat) (hn : l.length < n) :
    f n 0 = cond (anyAcc q [] l) X E := by
  have := scan_acc l q f X E hs he l.length 0 n (by omega) hn
  rwa [List.take_zero, List.drop_zero] at this
theorem anyAcc_or {α : Type} (p : α → Bool) (q : List α → α → Bool) : ∀ (l acc : List α), anyAcc (fun acc a => p a || q acc a) acc l = (l.any p || anyAcc q acc l)
  | [], acc => rfl
  | a :: r, acc => by
    rw [anyAcc, anyAcc, List.any_cons, anyAcc_or p q r]
    cases p a <;> cases q acc a <;> cases r.any p <;> rfl
def dup {α : Type} (nm : α → List UInt8) (acc : List α) (a : α) : Bool := acc.any fun x => decide (nm x = nm a)
theorem apart_dup {α : Type} (nm : α → List UInt8) : ∀ (l acc : List α), apartFrom (acc.map fun x => mk (nm x)) (l.map fun x => mk (nm x)) = !anyAcc (dup nm) acc l
  | [], acc => rfl
  | a :: r, acc => by
    rw [List.map_cons, apartFrom, anyAcc]
    have h1 : ((acc.map fun x => mk (nm x)).any fun y => decide (y = mk (nm a))) = dup nm acc a := by
      rw [List.any_map]
      unfold dup
      congr 1
      funext x
      exact decide_eq_decide.2 mk_inj
    rw [h1]
    have h2 : (acc.map fun x => mk (nm x)) ++ [mk (nm a)] = (acc ++ [a]).map fun x => mk (nm x) := by simp
    rw [h2, apart_dup nm r]
    cases dup nm acc a <;> rfl

theorem colNames_enc : ∀ l : List Co, colNames (l.map encC) = some (l.map fun c => mk c.name)
  | [] => rfl
  | c :: r => by
    rw [List.map_cons]
    show (colNames (r.map encC)).map _ = _
    rw [colNames_enc r]
    rfl
theorem tabNames_enc : ∀ l : List Tb, tabNames (l.map encT) = some (l.map fun c => mk c.name)
  | [] => rfl
  | c :: r => by
    rw [List.map_cons]
    show (tabNames (r.map encT)).map _ = _
    rw [tabNames_enc r]
    rfl
theorem unlikeRes_names {α : Type} (nm : α → List UInt8) (l : List α) (hl : l.length ≤ 1000000) (hs : ∀ a ∈ l, (nm a).length ≤ 24) : unlikeRes (l.map fun c => mk (nm c)) = some (!anyAcc (dup nm) [] l) := by
  unfold unlikeRes
  have h1 : (decide ((l.map fun c => mk (nm c)).length ≤ 1000000) && (l.map fun c => mk (nm c)).all fun s => decide (s.size ≤ 1099511627776)) = true := by
    simp only [Bool.and_eq_true, decide_eq_true_eq, List.length_map, List.all_eq_true, List.mem_map]
    refine ⟨hl, ?_⟩
    rintro s ⟨a, ha, rfl⟩
    have := hs a ha
    rw [size_mk]
    omega
  rw [h1, cond_true]
  have := apart_dup nm l []
  rw [List.map_nil] at this
  rw [this]
theorem nameOk_len {s : List UInt8} (h : nameOk s = true) : s.length ≤ 24 := by
  unfold nameOk at h
  split at h
  · cases h
  · simp only [Bool.and_eq_true, decide_eq_true_eq] at h; exact h.2.2.1
theorem oddC_name {c : Co} (h : oddC c = false) : nameOk c.name = true := by
  simp only [oddC, Bool.or_eq_false_iff, Bool.not_eq_false'] at h; exact h.2.1
theorem unlike_cols (l : List Co) (hl : l.length ≤ 1000000) (ho : l.any oddC = false) (γ : Type) (K : Bool → Option γ) : Sp.catalog_unlike_api_Column (l.map encC) γ K = K (!anyAcc (dup Co.name) [] l) := by
  unfold Sp.catalog_unlike_api_Column
  rw [colNames_enc, Option.bind_some, unlikeRes_names Co.name l hl (fun a ha => nameOk_len (oddC_name (by simpa using (List.any_eq_false.1 ho) a ha))), Option.bind_some]

/-- may a table be? -/
def okT (t : Tb) : Bool := nameOk t.name && (decide (1 ≤ t.cols.length) && (decide (t.cols.length ≤ 16) && (decide (t.rows.length ≤ 4096) && (!t.cols.any oddC && (!anyAcc (dup Co.name) [] t.cols && !t.rows.any (oddR t.cols))))))
theorem Table_eq (t : Tb) (h : t.Fine) (γ : Type) (K : Int → Option γ) : Sp.catalog_Table (mk t.name) (t.cols.map encC) (t.rows.map lEnc) γ K = K (cond (okT t) 0 130) := by
  unfold Sp.catalog_Table Sp.B_catalog_Table okT
  rw [lex_Name_eq _ h.name, List.length_map, List.length_map]
  cases nameOk t.name with
  | false => rfl
  | true =>
    simp only [Bool.not_true, cond_false, Bool.true_and]
    by_cases h1 : 1 ≤ t.cols.length
    case neg => rw [decide_eq_true (show Int.ofNat t.cols.length < 1 by simp only [Int.ofNat_eq_natCast]; omega), decide_eq_false h1]; rfl
    rw [decide_eq_false (show ¬ Int.ofNat t.cols.length < 1 by simp only [Int.ofNat_eq_natCast]; omega), decide_eq_true h1, cond_false, Bool.true_and]
    by_cases h2 : t.cols.length ≤ 16
    case neg => rw [decide_eq_true (show 16 < Int.ofNat t.cols.length by simp only [Int.ofNat_eq_natCast]; omega), decide_eq_false h2]; rfl
    rw [decide_eq_false (show ¬ 16 < Int.ofNat t.cols.length by simp only [Int.ofNat_eq_natCast]; omega), decide_eq_true h2, cond_false, Bool.true_and]
    by_cases h3 : t.rows.length ≤ 4096
    case neg => rw [decide_eq_true (show 4096 < Int.ofNat t.rows.length by simp only [Int.ofNat_eq_natCast]; omega), decide_eq_false h3]; rfl
    rw [decide_eq_false (show ¬ 4096 < Int.ofNat t.rows.length by simp only [Int.ofNat_eq_natCast]; omega), decide_eq_true h3, cond_false, Bool.true_and, odd_columns _ h.ncols h.cols]
    cases ho : t.cols.any oddC with
    | true => rfl
    | false =>
      rw [cond_false, unlike_cols _ h.ncols ho]
      cases anyAcc (dup Co.name) [] t.cols with
      | true => rfl
      | false =>
        simp only [Bool.not_false, Bool.not_true, cond_false, Bool.true_and]
        rw [odd_rows t.cols t.rows h.nrows h.rows]
        cases t.rows.any (oddR t.cols) <;> rfl

/-! ### the reference's -/
theorem May_eq (r : List Vl) (hr : r.length ≤ 1000) (γ : Type) (K : Int → Option γ) : Sp.ref04_May (r.map Vl.enc) γ K = K (cond (okR r) (cond (decide (253 < (encR r).length)) 3 0) 20) := by
  unfold Sp.ref04_May Sp.B_ref04_May
  rw [ref02_Check_eq r hr]
  cases h : okR r with
  | false => rfl
  | true =>
    rw [Bool.not_true, cond_false, ref02_Put_eq r h, List.length_map, cond_true]
    by_cases h2 : 253 < (encR r).length
    · rw [decide_eq_true h2, decide_eq_true (show 253 < Int.ofNat (encR r).length by simp only [Int.ofNat_eq_natCast]; omega)]; rfl
    · rw [decide_eq_false h2, decide_eq_false (show ¬ 253 < Int.ofNat (encR r).length by simp only [Int.ofNat_eq_natCast]; omega)]; rfl
theorem take_any {α : Type} (l : List α) (i : Nat) (q : α → Bool) : (l.take i).any q = true → l.any q = true := fun h => by
  rw [List.any_eq_true] at h ⊢
  obtain ⟨x, hx, hq⟩ := h
  exact ⟨x, List.mem_of_mem_take hx, hq⟩
theorem ref_dup (cols : List Co) (hl : cols.length ≤ 1000000) (i : Nat) (hi : i < cols.length) (c : Co) (v : Bool) (w0 : ByteArray) (w2 : List (List Dat)) (u0 : ByteArray) (u2 : Int) (γ : Type) (K : Ex → Bool → Int → ByteArray → List (List Dat) → List (List Dat) → ByteArray → ByteArray → Int → Option γ) (X : Option γ)
    (hX : ∀ j, K Ex.ret false j w0 (cols.map encC) w2 u0 (mk c.name) u2 = X) :
    Sp.ref13_Table_L2 fuel (i : Int) v 0 w0 (cols.map encC) w2 u0 (mk c.name) u2 γ K = cond (dup Co.name (cols.take i) c) X (K (Ex.exit 2) v (i : Int) w0 (cols.map encC) w2 u0 (mk c.name) u2) := by
  have hti : (cols.take i).length = i := by rw [List.length_take]; omega
  refine (scan_any (cols.take i) (fun x => decide (x.name = c.name)) (fun n k => Sp.ref13_Table_L2 n (i : Int) v (k : Int) w0 (cols.map encC) w2 u0 (mk c.name) u2 γ K) X (K (Ex.exit 2) v (i : Int) w0 (cols.map encC) w2 u0 (mk c.name) u2) (fun n k a ha hk => ?_) (fun n => ?_) fuel (by unfold fuel; omega))
  · have ha' : cols[k]? = some a := by rw [List.getElem?_take, if_pos (by omega)] at ha; exact ha
    conv => lhs; unfold Sp.ref13_Table_L2 Sp.B_ref13_Table_L2
    rw [lt_in (show k < i by omega), cond_true, elem_C1 ha', next_small (by omega), show decide (mk a.name = mk c.name) = decide (a.name = c.name) from decide_eq_decide.2 mk_inj]
    cases decide (a.name = c.name) with
    | true => rw [cond_true, cond_true, hX]
    | false => rfl
  · rw [hti]
    conv => lhs; unfold Sp.ref13_Table_L2 Sp.B_ref13_Table_L2
    rw [lt_out, cond_false]
theorem ref_Table_eq (t : Tb) (h : t.Fine) (γ : Type) (K : Bool → Option γ) : Sp.ref13_Table (mk t.name) (t.cols.map encC) (t.rows.map lEnc) γ K = K (okT t) := by
  unfold Sp.ref13_Table Sp.B_ref13_Table okT
  rw [ref_Name_eq _ h.name, List.length_map, List.length_map]
  cases nameOk t.name with
  | false => rfl
  | true =>
    simp only [Bool.not_true, cond_false, Bool.true_and]
    by_cases h1 : 1 ≤ t.cols.length
    case neg => rw [decide_eq_true (show Int.ofNat t.cols.length < 1 by simp only [Int.ofNat_eq_natCast]; omega), decide_eq_false h1]; rfl
    rw [decide_eq_false (show ¬ Int.ofNat t.cols.length < 1 by simp only [Int.ofNat_eq_natCast]; omega), decide_eq_true h1, cond_false, Bool.true_and]
    by_cases h2 : t.cols.length ≤ 16
    case neg => rw [decide_eq_true (show 16 < Int.ofNat t.cols.length by simp only [Int.ofNat_eq_natCast]; omega), decide_eq_false h2]; rfl
    rw [decide_eq_false (show ¬ 16 < Int.ofNat t.cols.length by simp only [Int.ofNat_eq_natCast]; omega), decide_eq_true h2, cond_false, Bool.true_and]
    by_cases h3 : t.rows.length ≤ 4096
    case neg => rw [decide_eq_true (show 4096 < Int.ofNat t.rows.length by simp only [Int.ofNat_eq_natCast]; omega), decide_eq_false h3]; rfl
    rw [decide_eq_false (show ¬ 4096 < Int.ofNat t.rows.length by simp only [Int.ofNat_eq_natCast]; omega), decide_eq_true h3, cond_false, Bool.true_and]
    have hrows : Sp.ref13_Table_L4 fuel false 0 (mk t.name) (t.cols.map encC) (t.rows.map lEnc) γ (fun z12 z13 z14 z15 z16 z17 => bif Ex.isExit z12 4 then K true else bif Ex.isRet z12 then K z13 else none) = cond (t.rows.any (oddR t.cols)) (K false) (K true) := by
      refine (scan_any t.rows (oddR t.cols) (fun n i => Sp.ref13_Table_L4 n false (i : Int) (mk t.name) (t.cols.map encC) (t.rows.map lEnc) γ (fun z12 z13 z14 z15 z16 z17 => bif Ex.isExit z12 4 then K true else bif Ex.isRet z12 then K z13 else none)) (K false) (K true) (fun n i a ha hi => ?_) (fun n => ?_) fuel (by have := h.nrows; unfold fuel; omega))
      · have hra := h.rows a (List.mem_of_getElem? ha)
        conv => lhs; unfold Sp.ref13_Table_L4 Sp.B_ref13_Table_L4
        rw [List.length_map, lt_in' hi, cond_true, elem_R ha, ref_Fits_eq t.cols a (by omega), elem_R ha, May_eq a (by omega), next_small (by have := h.nrows; omega)]
        unfold oddR
        cases hf : fits t.cols a with
        | false => rfl
        | true =>
          rw [fits_ok hf]
          cases decide (253 < (encR a).length) <;> rfl
      · conv => lhs; unfold Sp.ref13_Table_L4 Sp.B_ref13_Table_L4
        rw [List.length_map, lt_out', cond_false]
        rfl
    refine (scan_acc0 t.cols (fun acc c => oddC c || dup Co.name acc c) (fun n i => Sp.ref13_Table_L0 n false (i : Int) (mk t.name) (t.cols.map encC) (t.rows.map lEnc) γ fun z6 z7 z8 z9 z10 z11 => bif Ex.isExit z6 0 then Sp.ref13_Table_L4 fuel z7 0 z9 z10 z11 γ fun z12 z13 z14 z15 z16 z17 => bif Ex.isExit z12 4 then K true else bif Ex.isRet z12 then K z13 else none else bif Ex.isRet z6 then K z7 else none) (K false) (cond (t.rows.any (oddR t.cols)) (K false) (K true)) (fun n i a ha hi => ?_) (fun n => ?_) fuel (by have := h.ncols; unfold fuel; omega)).trans ?_
    · conv => lhs; unfold Sp.ref13_Table_L0 Sp.B_ref13_Table_L0
      rw [List.length_map, lt_in' hi, cond_true, elem_C ha, ref_Name_eq _ (h.cols a (List.mem_of_getElem? ha)), mk_nil]
      unfold oddC
      cases decide (a.tab = []) with
      | false => rfl
      | true =>
        cases nameOk a.name with
        | false => rfl
        | true =>
          cases decide (a.ty < 1) with
          | true => rfl
          | false =>
            cases decide (3 < a.ty) with
            | true => rfl
            | false =>
              simp only [Bool.not_true, cond_false, Bool.false_or]
              rw [ref_dup t.cols h.ncols i hi a false (mk t.name) (t.rows.map lEnc) (mk a.tab) a.ty γ _ (K false) (fun j => rfl)]
              simp only [Ex.isExit, beq_self_eq_true, cond_true]
              rw [next_small (by have := h.ncols; omega)]
    · conv => lhs; unfold Sp.ref13_Table_L0 Sp.B_ref13_Table_L0
      rw [List.length_map, lt_out', cond_false]
      exact hrows
    · rw [anyAcc_or]
      cases t.cols.any oddC <;> cases anyAcc (dup Co.name) [] t.cols <;> cases t.rows.any (oddR t.cols) <;> rfl
end Go.Proofs.YtimdilbcijgadaaGreatDoor

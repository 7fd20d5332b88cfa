/- Tables: which may be; the program's answers are the reference's. -/
import Derived.Test.YtimdilbcijgadaaGreatDoorPD
set_option linter.unusedVariables false
set_option linter.unusedSimpArgs false
namespace Go.Proofs.YtimdilbcijgadaaGreatDoor
open Go Go.Aev Go.RowKit Go.Sort

/-- a loop that goes over a list and stops where something holds -/
theorem scan_list {α γ : Type} (l : List α) (q : α → Bool) (f : Nat → Nat → Option γ) (X : Nat → Option γ) (E : Option γ)
    (hs : ∀ n i a, l[i]? = some a → i < l.length → f (n + 1) i = cond (q a) (X i) (f n (i + 1))) (he : ∀ n, f (n + 1) l.length = E) :
    ∀ (d i n : Nat), l.length = i + d → d < n → f n i = match (l.drop i).findIdx? q with
      | some k => X (i + k)
      | none => E := by
  intro d
  induction d with
  | zero =>
    intro i n hi hn
    obtain ⟨n, rfl⟩ : ∃ m, n = m + 1 := ⟨n - 1, by omega⟩
    obtain rfl : i = l.length := by omega
    rw [he, List.drop_eq_nil_of_le (Nat.le_refl _)]
    rfl
  | succ d ih =>
    intro i n hi hn
    obtain ⟨n, rfl⟩ : ∃ m, n = m + 1 := ⟨n - 1, by omega⟩
    have hlt : i < l.length := by omega
    rw [hs n i l[i] (List.getElem?_eq_getElem hlt) hlt, ih (i + 1) n (by omega) (by omega), List.drop_eq_getElem_cons hlt, List.findIdx?_cons]
    cases q l[i] with
    | true => rfl
    | false =>
      simp only [cond_false, Bool.false_eq_true, if_false]
      cases (l.drop (i + 1)).findIdx? q with
      | none => rfl
      | some k =>
        simp only [Option.map_some]
        rw [show i + 1 + k = i + (k + 1) by omega]
theorem find_any {α : Type} (q : α → Bool) (l : List α) : (l.findIdx? q).isSome = l.any q := by
  rw [List.findIdx?_isSome]
/-- .. to the same end wherever it stops -/
theorem scan_any {α γ : Type} (l : List α) (q : α → Bool) (f : Nat → Nat → Option γ) (X E : Option γ)
    (hs : ∀ n i a, l[i]? = some a → i < l.length → f (n + 1) i = cond (q a) X (f n (i + 1))) (he : ∀ n, f (n + 1) l.length = E) (n : Nat) (hn : l.length < n) :
    f n 0 = cond (l.any q) X E := by
  rw [scan_list l q f (fun _ => X) E hs he l.length 0 n (by omega) hn, List.drop_zero, ← find_any q l]
  cases l.findIdx? q <;> rfl

/-- a column -/
structure Co where
  tab : List UInt8
  name : List UInt8
  ty : Int
deriving DecidableEq
def encC (c : Co) : List Dat := [.str (mk c.tab), .str (mk c.name), .int .i64 c.ty]
/-- a table -/
structure Tb where
  name : List UInt8
  cols : List Co
  rows : List (List Vl)
deriving DecidableEq
def encT (t : Tb) : List Dat := [.str (mk t.name), .sl (t.cols.map encC), .sl (t.rows.map lEnc)]
/-- as large as a world lets them be -/
structure Tb.Fine (t : Tb) : Prop where
  name : t.name.length ≤ 9223372036854775807
  cols : ∀ c ∈ t.cols, c.name.length ≤ 9223372036854775807
  ncols : t.cols.length ≤ 1000000
  nrows : t.rows.length ≤ 6000
  rows : ∀ r ∈ t.rows, r.length ≤ 100

theorem next_small {i : Nat} (h : i ≤ 1099511627776) : IntKind.wrap .i64 ((i : Int) + 1) = ((i + 1 : Nat) : Int) := by
  rw [wrap_i64 (by omega)]; omega
theorem lt_in {i n : Nat} (h : i < n) : decide ((i : Int) < (n : Int)) = true := decide_eq_true (by omega)
theorem lt_out {n : Nat} : decide ((n : Int) < (n : Int)) = false := decide_eq_false (by omega)


section
variable {β : Type}
theorem elem_C {l : List Co} {i : Nat} {a : Co} (h : l[i]? = some a) (G : ByteArray → ByteArray → Int → Option β) :
    (elemAt (l.map encC) (i : Int) fun z => bif List.length z == 3 then cellAt z 0 fun z1 => asStr z1 fun a => cellAt z 1 fun z2 => asStr z2 fun b => cellAt z 2 fun z3 => Aev.asInt IntKind.i64 z3 fun c => G a b c else none) = G (mk a.tab) (mk a.name) a.ty := (elemAt_map h _).trans rfl
theorem elem_C1 {l : List Co} {i : Nat} {a : Co} (h : l[i]? = some a) (G : ByteArray → Option β) :
    (elemAt (l.map encC) (i : Int) fun z => bif List.length z == 3 then cellAt (List.drop 1 z) 0 fun z1 => asStr z1 fun a => G a else none) = G (mk a.name) := (elemAt_map h _).trans rfl
theorem elem_C2 {l : List Co} {i : Nat} {a : Co} (h : l[i]? = some a) (G : Int → Option β) :
    (elemAt (l.map encC) (i : Int) fun z => bif List.length z == 3 then cellAt (List.drop 2 z) 0 fun z1 => Aev.asInt IntKind.i64 z1 fun a => G a else none) = G a.ty := (elemAt_map h _).trans rfl
theorem elem_T {l : List Tb} {i : Nat} {a : Tb} (h : l[i]? = some a) (G : ByteArray → List (List Dat) → List (List Dat) → Option β) :
    (elemAt (l.map encT) (i : Int) fun z => bif List.length z == 3 then cellAt z 0 fun z1 => asStr z1 fun a => cellAt z 1 fun z2 => asSl z2 fun b => cellAt z 2 fun z3 => asSl z3 fun c => G a b c else none) = G (mk a.name) (a.cols.map encC) (a.rows.map lEnc) := (elemAt_map h _).trans rfl
theorem elem_T0 {l : List Tb} {i : Nat} {a : Tb} (h : l[i]? = some a) (G : ByteArray → Option β) :
    (elemAt (l.map encT) (i : Int) fun z => bif List.length z == 3 then cellAt (List.drop 0 z) 0 fun z1 => asStr z1 fun a => G a else none) = G (mk a.name) := (elemAt_map h _).trans rfl
theorem elem_T1 {l : List Tb} {i : Nat} {a : Tb} (h : l[i]? = some a) (G : List (List Dat) → Option β) :
    (elemAt (l.map encT) (i : Int) fun z => bif List.length z == 3 then cellAt (List.drop 1 z) 0 fun z1 => asSl z1 fun a => G a else none) = G (a.cols.map encC) := (elemAt_map h _).trans rfl
theorem elem_T2 {l : List Tb} {i : Nat} {a : Tb} (h : l[i]? = some a) (G : List (List Dat) → Option β) :
    (elemAt (l.map encT) (i : Int) fun z => bif List.length z == 3 then cellAt (List.drop 2 z) 0 fun z1 => asSl z1 fun a => G a else none) = G (a.rows.map lEnc) := (elemAt_map h _).trans rfl
theorem elem_R {l : List (List Vl)} {i : Nat} {a : List Vl} (h : l[i]? = some a) (G : List (List Dat) → Option β) :
    (elemAt (l.map lEnc) (i : Int) fun z => bif List.length z == 1 then cellAt z 0 fun z1 => asSl z1 fun a => G a else none) = G (a.map Vl.enc) := (elemAt_map h _).trans rfl
theorem elem_V {l : List Vl} {i : Nat} {a : Vl} (h : l[i]? = some a) (G : Int → Int → ByteArray → Option β) :
    (elemAt (l.map Vl.enc) (i : Int) fun z => bif List.length z == 3 then cellAt z 0 fun z1 => Aev.asInt IntKind.i64 z1 fun a => cellAt z 1 fun z2 => Aev.asInt IntKind.i64 z2 fun b => cellAt z 2 fun z3 => asStr z3 fun c => G a b c else none) = G a.k a.n a.s := (elemAt_map h _).trans rfl
theorem elem_V0 {l : List Vl} {i : Nat} {a : Vl} (h : l[i]? = some a) (G : Int → Option β) :
    (elemAt (l.map Vl.enc) (i : Int) fun z => bif List.length z == 3 then cellAt (List.drop 0 z) 0 fun z1 => Aev.asInt IntKind.i64 z1 fun a => G a else none) = G a.k := (elemAt_map h _).trans rfl
end
theorem lt_in' {α : Type} {l : List α} {i : Nat} (h : i < l.length) : decide ((i : Int) < Int.ofNat l.length) = true := decide_eq_true (by simp only [Int.ofNat_eq_natCast]; omega)
theorem lt_out' {α : Type} {l : List α} : decide ((l.length : Int) < Int.ofNat l.length) = false := decide_eq_false (by simp only [Int.ofNat_eq_natCast]; omega)
theorem ge_zero (i : Nat) : decide ((0 : Int) ≤ (i : Int)) = true := decide_eq_true (by omega)

/-! ### columns -/
def oddC (c : Co) : Bool := !decide (c.tab = []) || (!nameOk c.name || (decide (c.ty < 1) || decide (3 < c.ty)))
theorem mk_nil (l : List UInt8) : decide (mk l = bs []) = decide (l = []) := by
  show decide (mk l = mk []) = _
  by_cases h : l = []
  · subst h; rw [decide_eq_true rfl, decide_eq_true rfl]
  · rw [decide_eq_false h, decide_eq_false (fun e => h (mk_inj.1 e))]
theorem oddColumn_eq (c : Co) (hc : c.name.length ≤ 9223372036854775807) (γ : Type) (K : Bool → Option γ) : Sp.catalog_oddColumn (mk c.tab) (mk c.name) c.ty γ K = K (oddC c) := by
  unfold Sp.catalog_oddColumn Sp.B_catalog_oddColumn oddC
  rw [mk_nil, lex_Name_eq _ hc]
  cases decide (c.tab = []) <;> cases nameOk c.name <;> cases decide (c.ty < 1) <;> rfl
theorem odd_columns (l : List Co) (hl : l.length ≤ 1000000) (hc : ∀ c ∈ l, c.name.length ≤ 9223372036854775807) (γ : Type) (K : Bool → Option γ) : Sp.slices_ContainsFunc_api_Column_api_Column (l.map encC) γ K = K (l.any oddC) := by
  unfold Sp.slices_ContainsFunc_api_Column_api_Column Sp.B_slices_ContainsFunc_api_Column_api_Column Sp.slices_IndexFunc_api_Column_api_Column Sp.B_slices_IndexFunc_api_Column_api_Column
  rw [List.length_map]
  refine (scan_any l oddC (fun n i => Sp.slices_IndexFunc_api_Column_api_Column_L0 n (l.map encC) (Int.ofNat l.length) 0 (i : Int) γ fun z3 z4 z5 => bif Ex.isExit z3 0 then K (decide ((0 : Int) ≤ -1)) else bif Ex.isRet z3 then K (decide (0 ≤ z4)) else none) (K true) (K false) (fun n i a ha hi => ?_) (fun n => ?_) fuel (by unfold fuel; omega)).trans ?_
  · conv => lhs; unfold Sp.slices_IndexFunc_api_Column_api_Column_L0 Sp.B_slices_IndexFunc_api_Column_api_Column_L0
    rw [lt_in' hi, cond_true, elem_C ha, oddColumn_eq a (hc a (List.mem_of_getElem? ha)), next_small (by omega)]
    cases oddC a with
    | true => rw [cond_true, cond_true]; simp only [Ex.isExit, Ex.isRet, cond_false, cond_true]; rw [ge_zero]
    | false => rfl
  · conv => lhs; unfold Sp.slices_IndexFunc_api_Column_api_Column_L0 Sp.B_slices_IndexFunc_api_Column_api_Column_L0
    rw [lt_out', cond_false]
    rfl
  · cases l.any oddC <;> rfl

/-! ### rows that fit -/
def fits (cols : List Co) (r : List Vl) : Bool := decide (r.length = cols.length) && (okR r && !(r.zip cols).any fun x => !decide (x.1.k = 0) && !decide (x.1.k = x.2.ty))
theorem zip_get {α β : Type} {l : List α} {m : List β} {i : Nat} {x : α × β} (h : (l.zip m)[i]? = some x) : l[i]? = some x.1 ∧ m[i]? = some x.2 := by
  rw [List.getElem?_zip_eq_some] at h
  exact h
theorem Fits_eq (cols : List Co) (r : List Vl) (hr : r.length ≤ 1000) (γ : Type) (K : Bool → Option γ) : Sp.catalog_Fits (cols.map encC) (r.map Vl.enc) γ K = K (fits cols r) := by
  unfold Sp.catalog_Fits Sp.B_catalog_Fits fits
  rw [List.length_map, List.length_map, row_Check_eq r hr]
  by_cases hlen : r.length = cols.length
  · rw [decide_eq_true (show Int.ofNat r.length = Int.ofNat cols.length by rw [hlen]), decide_eq_true hlen]
    cases okR r with
    | false => rfl
    | true =>
      simp only [Bool.not_true, cond_false, cond_true, decide_true, Bool.true_and]
      have hz : (r.zip cols).length = r.length := by rw [List.length_zip, hlen, Nat.min_self]
      refine (scan_any (r.zip cols) (fun x => !decide (x.1.k = 0) && !decide (x.1.k = x.2.ty)) (fun n i => Sp.catalog_Fits_L0 n (cols.map encC) (r.map Vl.enc) (Int.ofNat r.length) false (i : Int) γ fun z5 z6 z7 => bif Ex.isExit z5 0 then K true else bif Ex.isRet z5 then K z6 else none) (K false) (K true) (fun n i a ha hi => ?_) (fun n => ?_) fuel (by unfold fuel; omega)).trans ?_
      · obtain ⟨h1, h2⟩ := zip_get ha
        conv => lhs; unfold Sp.catalog_Fits_L0 Sp.B_catalog_Fits_L0
        rw [lt_in' (l := r) (by omega), cond_true, elem_V h1, elem_C2 h2, next_small (by omega)]
        cases decide (a.1.k = 0) <;> cases decide (a.1.k = a.2.ty) <;> rfl
      · rw [hz]
        conv => lhs; unfold Sp.catalog_Fits_L0 Sp.B_catalog_Fits_L0
        rw [lt_out', cond_false]
        rfl
      · cases (r.zip cols).any fun x => !decide (x.1.k = 0) && !decide (x.1.k = x.2.ty) <;> rfl
  · rw [decide_eq_false (show ¬ Int.ofNat r.length = Int.ofNat cols.length by simp only [Int.ofNat_eq_natCast]; omega), decide_eq_false hlen]
    rfl
theorem ref_Fits_eq (cols : List Co) (r : List Vl) (hr : r.length ≤ 1000) (γ : Type) (K : Bool → Option γ) : Sp.ref13_Fits (cols.map encC) (r.map Vl.enc) γ K = K (fits cols r) := by
  unfold Sp.ref13_Fits Sp.B_ref13_Fits fits
  rw [List.length_map, List.length_map, ref02_Check_eq r hr]
  by_cases hlen : r.length = cols.length
  · rw [decide_eq_true (show Int.ofNat r.length = Int.ofNat cols.length by rw [hlen]), decide_eq_true hlen]
    cases okR r with
    | false => rfl
    | true =>
      simp only [Bool.not_true, cond_false, Bool.true_and]
      have hz : (r.zip cols).length = r.length := by rw [List.length_zip, hlen, Nat.min_self]
      refine (scan_any (r.zip cols) (fun x => !decide (x.1.k = 0) && !decide (x.1.k = x.2.ty)) (fun n i => Sp.ref13_Fits_L0 n (cols.map encC) (r.map Vl.enc) false (i : Int) γ fun z5 z6 z7 => bif Ex.isExit z5 0 then K true else bif Ex.isRet z5 then K z6 else none) (K false) (K true) (fun n i a ha hi => ?_) (fun n => ?_) fuel (by unfold fuel; omega)).trans ?_
      · obtain ⟨h1, h2⟩ := zip_get ha
        conv => lhs; unfold Sp.ref13_Fits_L0 Sp.B_ref13_Fits_L0
        rw [List.length_map, lt_in' (l := r) (by omega), cond_true, elem_V0 h1, elem_V0 h1, elem_C2 h2, next_small (by omega)]
        cases decide (a.1.k = 0) <;> cases decide (a.1.k = a.2.ty) <;> rfl
      · rw [hz]
        conv => lhs; unfold Sp.ref13_Fits_L0 Sp.B_ref13_Fits_L0
        rw [List.length_map, lt_out', cond_false]
        rfl
      · cases (r.zip cols).any fun x => !decide (x.1.k = 0) && !decide (x.1.k = x.2.ty) <;> rfl
  · rw [decide_eq_false (show ¬ Int.ofNat r.length = Int.ofNat cols.length by simp only [Int.ofNat_eq_natCast]; omega), decide_eq_false hlen]
    rfl
def oddR (cols : List Co) (r : List Vl) : Bool := !fits cols r || decide (253 < (encR r).length)
theorem fits_ok {cols : List Co} {r : List Vl} (h : fits cols r = true) : okR r = true := by
  simp only [fits, Bool.and_eq_true] at h; exact h.2.1
theorem odd_row_eq (cols : List Co) (r : List Vl) (hr : r.length ≤ 1000) (b0 : ByteArray) (b2 : List (List Dat)) (γ : Type) (K : Bool → ByteArray → List (List Dat) → List (List Dat) → Option γ) :
    Sp.catalog_Table_1 (r.map Vl.enc) b0 (cols.map encC) b2 γ K = K (oddR cols r) b0 (cols.map encC) b2 := by
  unfold Sp.catalog_Table_1 Sp.B_catalog_Table_1 oddR
  rw [Fits_eq cols r hr]
  cases h : fits cols r with
  | false => rfl
  | true =>
    rw [Bool.not_true, cond_false, row_Size_eq r hr, fits_ok h, cond_true, Bool.false_or]
    congr 1
    exact decide_eq_decide.2 ⟨fun h => by omega, fun h => by omega⟩
theorem odd_rows (cols : List Co) (l : List (List Vl)) (hl : l.length ≤ 6000) (hr : ∀ r ∈ l, r.length ≤ 100) (b0 : ByteArray) (b2 : List (List Dat)) (γ : Type) (K : Bool → ByteArray → List (List Dat) → List (List Dat) → Option γ) :
    Sp.slices_ContainsFunc_api_Value_api_Value (l.map lEnc) b0 (cols.map encC) b2 γ K = K (l.any (oddR cols)) b0 (cols.map encC) b2 := by
  unfold Sp.slices_ContainsFunc_api_Value_api_Value Sp.B_slices_ContainsFunc_api_Value_api_Value Sp.slices_IndexFunc_api_Value_api_Value Sp.B_slices_IndexFunc_api_Value_api_Value
  rw [List.length_map]
  refine (scan_any l (oddR cols) (fun n i => Sp.slices_IndexFunc_api_Value_api_Value_L0 n (l.map lEnc) (Int.ofNat l.length) 0 (i : Int) b0 (cols.map encC) b2 γ fun z6 z7 z8 z9 z10 z11 => bif Ex.isExit z6 0 then K (decide ((0 : Int) ≤ -1)) z9 z10 z11 else bif Ex.isRet z6 then K (decide (0 ≤ z7)) z9 z10 z11 else none) (K true b0 (cols.map encC) b2) (K false b0 (cols.map encC) b2) (fun n i a ha hi => ?_) (fun n => ?_) fuel (by unfold fuel; omega)).trans ?_
  · conv => lhs; unfold Sp.slices_IndexFunc_api_Value_api_Value_L0 Sp.B_slices_IndexFunc_api_Value_api_Value_L0
    rw [lt_in' hi, cond_true, elem_R ha, odd_row_eq cols a (by have := hr a (List.mem_of_getElem? ha); omega), next_small (by omega)]
    cases oddR cols a with
    | true => rw [cond_true, cond_true]; simp only [Ex.isExit, Ex.isRet, cond_false, cond_true]; rw [ge_zero]
    | false => rfl
  · conv => lhs; unfold Sp.slices_IndexFunc_api_Value_api_Value_L0 Sp.B_slices_IndexFunc_api_Value_api_Value_L0
    rw [lt_out', cond_false]
    rfl
  · cases l.any (oddR cols) <;> rfl
end Go.Proofs.YtimdilbcijgadaaGreatDoor

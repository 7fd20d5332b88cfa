/- Rows: which may be; their bytes. -/
import Derived.Test.YtimdilbcijgadaaGreatDoorPC
set_option linter.unusedVariables false
set_option linter.unusedSimpArgs false
namespace Go.Proofs.YtimdilbcijgadaaGreatDoor
open Go Go.Aev Go.RowKit Go.Sort
/-- a number's last byte -/
def u8 (x : Int) : UInt8 := UInt8.ofNat (x % 256).toNat
theorem wrap_u8 (x : Int) : IntKind.wrap .u8 x = ((u8 x).toNat : Int) := by
  have : IntKind.wrap .u8 x = x % 256 := by
    unfold IntKind.wrap
    rfl
  rw [this]
  unfold u8
  simp only [UInt8.toNat_ofNat']
  omega
theorem uEnc_wrap (x : Int) : [Dat.int IntKind.u8 (IntKind.wrap IntKind.u8 x)] = uEnc (u8 x) := by rw [wrap_u8]; rfl
theorem snoc_u (acc : List UInt8) (x : Int) : acc.map uEnc ++ [[Dat.int IntKind.u8 (IntKind.wrap IntKind.u8 x)]] = (acc ++ [u8 x]).map uEnc := by
  rw [uEnc_wrap, List.map_append]; rfl
theorem bytesEs_u (s : ByteArray) : bytesEs s = s.data.toList.map uEnc := rfl
theorem sized_u (l : List UInt8) : sized (l.map uEnc) 1 = true := sized_iff.2 fun e he => by
  obtain ⟨v, _, rfl⟩ := List.mem_map.1 he
  rfl
theorem room2 {n m : Nat} (h : n ≤ 1048576) (hm : m ≤ 1048576) : decide ((n + m) * 2 ≤ 70368744177664) = true := decide_eq_true (by omega)
theorem sized_e (l : List Vl) : sized (l.map Vl.enc) 3 = true := sized_iff.2 fun e he => by
  obtain ⟨v, _, rfl⟩ := List.mem_map.1 he
  rfl

/-- seven bytes -/
def be7 (n : Int) : List UInt8 := (List.range 7).map fun i => u8 (Int.fdiv n (2 ^ (8 * (6 - i))))
theorem be7_get {n : Int} {i : Nat} (h : i < 7) : (be7 n)[i]? = some (u8 (Int.fdiv n (2 ^ (8 * (6 - i))))) := by
  unfold be7
  rw [List.getElem?_map, List.getElem?_range h]; rfl
theorem be7_len (n : Int) : (be7 n).length = 7 := by simp [be7]
theorem drop_get {α : Type} {l : List α} {i : Nat} {x : α} (h : l[i]? = some x) : l.drop i = x :: l.drop (i + 1) := by
  obtain ⟨hi, rfl⟩ := List.getElem?_eq_some_iff.1 h
  exact List.drop_eq_getElem_cons hi

theorem ref_put_loop (r : List (List Dat)) (i0 : Int) (v : Int) (γ : Type) (K : Ex → List (List Dat) → Int → Option γ) : ∀ (d i m : Nat) (acc : List UInt8), 7 = i + d → d < m → acc.length ≤ 10000 + i →
    Sp.ref02_Put_L3 m r i0 v (acc.map uEnc) (6 - (i : Int)) γ K = K (Ex.exit 3) ((acc ++ (be7 v).drop i).map uEnc) (-1) := by
  intro d
  induction d with
  | zero =>
    intro i m acc hi hm hacc
    obtain ⟨m, rfl⟩ : ∃ k, m = k + 1 := ⟨m - 1, by omega⟩
    obtain rfl : i = 7 := by omega
    unfold Sp.ref02_Put_L3 Sp.B_ref02_Put_L3
    rw [sized_u, cond_true, decide_eq_false (by decide), cond_false, List.drop_eq_nil_of_le (by rw [be7_len]; exact Nat.le_refl _), List.append_nil]
    rfl
  | succ d ih =>
    intro i m acc hi hm hacc
    obtain ⟨m, rfl⟩ : ∃ k, m = k + 1 := ⟨m - 1, by omega⟩
    unfold Sp.ref02_Put_L3 Sp.B_ref02_Put_L3
    have e2 : IntKind.wrap IntKind.i64 (8 * (6 - (i : Int))) = ((8 * (6 - i) : Nat) : Int) := by rw [wrap_i64 (by omega)]; omega
    have e3 : IntKind.wrap IntKind.i64 (6 - (i : Int) - 1) = 6 - ((i + 1 : Nat) : Int) := by rw [wrap_i64 (by omega)]; omega
    rw [sized_u, cond_true, decide_eq_true (show (0 : Int) ≤ 6 - (i : Int) by omega), cond_true, e2, decide_eq_true (show (0 : Int) ≤ ((8 * (6 - i) : Nat) : Int) by omega), cond_true, List.length_map, room2 (by omega) (by omega), Int.toNat_natCast,
      Nat.min_eq_left (by omega), snoc_u, e3]
    simp only [Bool.and_true, cond_true]
    rw [ih (i + 1) m _ (by omega) (by omega) (by simp; omega), drop_get (be7_get (n := v) (i := i) (by omega))]
    simp

/-- a value's bytes -/
def encV (v : Vl) : List UInt8 :=
  u8 v.k :: (if v.k = 1 then [u8 v.n] else if v.k = 2 then be7 (v.n + 9007199254740992) else if v.k = 3 then u8 v.s.size :: v.s.data.toList else [])
def encR (l : List Vl) : List UInt8 := u8 l.length :: l.flatMap encV

theorem ok_cases {v : Vl} (h : v.ok = true) : v = ⟨0, 0, bs []⟩ ∨ (v.k = 1 ∧ (v.n = 0 ∨ v.n = 1) ∧ v.s = bs []) ∨ (v.k = 2 ∧ (-9007199254740991 ≤ v.n ∧ v.n ≤ 9007199254740991) ∧ v.s = bs []) ∨ (v.k = 3 ∧ v.n = 0 ∧ v.s.size ≤ 64) := by
  obtain ⟨k, n, s⟩ := v
  simp only [Vl.ok, V.ok, Bool.or_eq_true, Bool.and_eq_true, decide_eq_true_eq] at h
  rcases h with ((⟨⟨h1, h2⟩, h3⟩ | ⟨⟨h1, h2⟩, h3⟩) | ⟨⟨⟨h1, h2⟩, h4⟩, h3⟩) | ⟨⟨h1, h2⟩, h3⟩
  · left; rw [h1, h2, h3]
  · exact .inr (.inl ⟨h1, h2, h3⟩)
  · exact .inr (.inr (.inl ⟨h1, ⟨h2, h4⟩, h3⟩))
  · exact .inr (.inr (.inr ⟨h1, h2, by show s.size ≤ 64; omega⟩))
theorem encV_len {v : Vl} (h : v.ok = true) : (encV v).length ≤ 66 := by
  unfold encV
  rcases ok_cases h with rfl | ⟨h1, _⟩ | ⟨h1, _⟩ | ⟨h1, _, h2⟩
  · simp
  · simp [h1]
  · simp [h1, be7_len]
  · simp only [h1]
    have : v.s.data.toList.length = v.s.size := Array.length_toList
    simp [this]; omega

def okR (l : List Vl) : Bool := l.all Vl.ok && decide (l.length ≤ 32)

theorem check_loop (l : List Vl) (hl : l.length ≤ 1000) (γ : Type) (K : Bool → Option γ) : ∀ (d i n : Nat), l.length = i + d → d < n →
    Sp.slices_IndexFunc_api_Value_api_Value_95_L0 n (l.map Vl.enc) (Int.ofNat l.length) 0 (i : Int) γ
      (fun z4 z5 z6 => bif Ex.isExit z4 0 then K (decide (0 ≤ (-1 : Int))) else bif Ex.isRet z4 then K (decide (0 ≤ z5)) else none) = K (!(l.drop i).all Vl.ok) := by
  intro d
  induction d with
  | zero =>
    intro i n hi hn
    obtain ⟨n, rfl⟩ : ∃ k, n = k + 1 := ⟨n - 1, by omega⟩
    unfold Sp.slices_IndexFunc_api_Value_api_Value_95_L0 Sp.B_slices_IndexFunc_api_Value_api_Value_95_L0
    rw [lt_f (by omega), List.drop_eq_nil_of_le (by omega)]
    rfl
  | succ d ih =>
    intro i n hi hn
    obtain ⟨n, rfl⟩ : ∃ k, n = k + 1 := ⟨n - 1, by omega⟩
    obtain ⟨c, hcc, hdc⟩ := dropv_cons (show i < l.length by omega)
    unfold Sp.slices_IndexFunc_api_Value_api_Value_95_L0 Sp.B_slices_IndexFunc_api_Value_api_Value_95_L0 Sp.row_Check_1 Sp.B_row_Check_1
    rw [lt_t (by omega), cond_true, elemAt_enc hcc, vl_cells, value_Check_eq, hdc, List.all_cons, next_i (by omega), ih (i + 1) n (by omega) (by omega)]
    show (bif !decide ((cond c.ok (0 : Int) 10) = 0) then _ else _) = _
    cases c.ok with
    | true => rfl
    | false =>
      show K (decide (0 ≤ (i : Int))) = K true
      rw [decide_eq_true (by omega)]

theorem row_Check_eq (l : List Vl) (hl : l.length ≤ 1000) (γ : Type) (K : Int → Option γ) : Sp.row_Check (l.map Vl.enc) γ K = K (cond (okR l) 0 20) := by
  unfold Sp.row_Check Sp.B_row_Check okR
  rw [List.length_map]
  by_cases h : 32 < l.length
  · rw [decide_eq_true (show (32 : Int) < Int.ofNat l.length by simp only [Int.ofNat_eq_natCast]; omega), cond_true, decide_eq_false (show ¬ l.length ≤ 32 by omega), Bool.and_false]; rfl
  · rw [decide_eq_false (show ¬ (32 : Int) < Int.ofNat l.length by simp only [Int.ofNat_eq_natCast]; omega), cond_false, decide_eq_true (show l.length ≤ 32 by omega), Bool.and_true]
    unfold Sp.slices_ContainsFunc_api_Value_api_Value_78 Sp.B_slices_ContainsFunc_api_Value_api_Value_78 Sp.slices_IndexFunc_api_Value_api_Value_95 Sp.B_slices_IndexFunc_api_Value_api_Value_95
    rw [List.length_map]
    refine (check_loop l hl γ (fun z3 => bif z3 then K 20 else K 0) l.length 0 fuel (by omega) (by unfold fuel; omega)).trans ?_
    rw [List.drop_zero]
    cases l.all Vl.ok <;> rfl

theorem ref_check_loop (l : List Vl) (hl : l.length ≤ 1000) (γ : Type) (K : Bool → Option γ) : ∀ (d i n : Nat), l.length = i + d → d < n →
    Sp.ref02_Check_L0 n (l.map Vl.enc) false (i : Int) γ
      (fun z3 z4 z5 => bif Ex.isExit z3 0 then K (decide (Int.ofNat l.length ≤ 32)) else bif Ex.isRet z3 then K z4 else none) = K ((l.drop i).all Vl.ok && decide (Int.ofNat l.length ≤ 32)) := by
  intro d
  induction d with
  | zero =>
    intro i n hi hn
    obtain ⟨n, rfl⟩ : ∃ k, n = k + 1 := ⟨n - 1, by omega⟩
    unfold Sp.ref02_Check_L0 Sp.B_ref02_Check_L0
    rw [List.length_map, lt_f (by omega), List.drop_eq_nil_of_le (by omega)]
    rfl
  | succ d ih =>
    intro i n hi hn
    obtain ⟨n, rfl⟩ : ∃ k, n = k + 1 := ⟨n - 1, by omega⟩
    obtain ⟨c, hcc, hdc⟩ := dropv_cons (show i < l.length by omega)
    unfold Sp.ref02_Check_L0 Sp.B_ref02_Check_L0
    rw [List.length_map, lt_t (by omega), cond_true, elemAt_enc hcc, vl_cells, ref01_Check_eq, hdc, List.all_cons, next_i (by omega), ih (i + 1) n (by omega) (by omega)]
    show (bif !c.ok then _ else _) = _
    cases c.ok <;> rfl

theorem ref02_Check_eq (l : List Vl) (hl : l.length ≤ 1000) (γ : Type) (K : Bool → Option γ) : Sp.ref02_Check (l.map Vl.enc) γ K = K (okR l) := by
  unfold Sp.ref02_Check Sp.B_ref02_Check okR
  rw [List.length_map]
  refine (ref_check_loop l hl γ K l.length 0 fuel (by omega) (by unfold fuel; omega)).trans ?_
  rw [List.drop_zero, show decide (Int.ofNat l.length ≤ 32) = decide (l.length ≤ 32) from decide_eq_decide.2 (by simp only [Int.ofNat_eq_natCast]; omega)]

theorem flat_len {l : List Vl} (h : l.all Vl.ok = true) : (l.flatMap encV).length ≤ 66 * l.length := by
  induction l with
  | nil => simp
  | cons v l ih =>
    rw [List.all_cons, Bool.and_eq_true] at h
    have := encV_len h.1
    have := ih h.2
    simp only [List.flatMap_cons, List.length_append, List.length_cons]
    omega

theorem ref_Put_loop (l : List Vl) (hl : l.length ≤ 32) (hok : l.all Vl.ok = true) (γ : Type) (K : List (List Dat) → Option γ) : ∀ (d i n : Nat) (acc : List UInt8), l.length = i + d → d < n → acc.length ≤ 1 + 66 * i →
    Sp.ref02_Put_L0 n (l.map Vl.enc) (acc.map uEnc) (i : Int) γ
      (fun z3 z4 z5 => bif sized z4 1 then bif Ex.isExit z3 0 then K z4 else bif Ex.isRet z3 then none else none else none) = K ((acc ++ (l.drop i).flatMap encV).map uEnc) := by
  intro d
  induction d with
  | zero =>
    intro i n acc hi hn hacc
    obtain ⟨n, rfl⟩ : ∃ k, n = k + 1 := ⟨n - 1, by omega⟩
    unfold Sp.ref02_Put_L0 Sp.B_ref02_Put_L0
    rw [sized_u, cond_true, List.length_map, lt_f (by omega), List.drop_eq_nil_of_le (by omega), cond_false]
    show (bif sized (acc.map uEnc) 1 then K (acc.map uEnc) else none) = _
    rw [sized_u, List.flatMap_nil, List.append_nil]
    rfl
  | succ d ih =>
    intro i n acc hi hn hacc
    obtain ⟨n, rfl⟩ : ∃ k, n = k + 1 := ⟨n - 1, by omega⟩
    obtain ⟨v, hcc, hdc⟩ := dropv_cons (show i < l.length by omega)
    have hv := List.all_eq_true.1 hok v (List.mem_of_getElem? hcc)
    have hlen := encV_len hv
    have hs : v.s.data.toList.length = v.s.size := Array.length_toList
    have hih : ∀ x, x = acc ++ encV v → Sp.ref02_Put_L0 n (l.map Vl.enc) (x.map uEnc) ((i + 1 : Nat) : Int) γ (fun z3 z4 z5 => bif sized z4 1 then bif Ex.isExit z3 0 then K z4 else bif Ex.isRet z3 then none else none else none) =
        K ((acc ++ (l.drop i).flatMap encV).map uEnc) := by
      rintro x rfl
      rw [ih (i + 1) n _ (by omega) (by omega) (by simp only [List.length_append]; omega), hdc]
      simp
    unfold Sp.ref02_Put_L0 Sp.B_ref02_Put_L0
    rw [sized_u, cond_true, List.length_map, lt_t (by omega), cond_true, elemAt_enc hcc, vl_cells, List.length_map, room2 (by omega) (by omega), snoc_u, sized_u, List.length_map, room2 (by simp; omega) (by omega), next_i (by omega)]
    simp only [Bool.and_true, cond_true]
    rcases ok_cases hv with rfl | ⟨h1, h2, h3⟩ | ⟨h1, h2, h3⟩ | ⟨h1, h2, h3⟩
    · exact hih _ rfl
    · rw [h1, decide_eq_true (rfl : (1 : Int) = 1), cond_true, snoc_u]
      exact hih _ (by unfold encV; rw [h1]; simp)
    · rw [h1, decide_eq_false (by decide), cond_false, decide_eq_true (rfl : (2 : Int) = 2), cond_true, wrap_i64 (by omega)]
      have h6 := ref_put_loop (l.map Vl.enc) (i : Int) (v.n + 9007199254740992) γ (fun z12 z13 z14 => bif sized z13 1 then bif Ex.isExit z12 3 then Sp.ref02_Put_L0 n (l.map Vl.enc) z13 ((i + 1 : Nat) : Int) γ (fun z3 z4 z5 => bif sized z4 1 then bif Ex.isExit z3 0 then K z4 else bif Ex.isRet z3 then none else none else none) else bif Ex.isRet z12 then (fun z3 z4 z5 => bif sized z4 1 then bif Ex.isExit z3 0 then K z4 else bif Ex.isRet z3 then none else none else none) Ex.ret z13 (i : Int) else none else none) 7 0 fuel (acc ++ [u8 2]) (by omega) (by unfold fuel; omega) (by simp; omega)
      refine h6.trans ?_
      rw [sized_u]
      refine (show _ = _ from ?_ : Sp.ref02_Put_L0 n (l.map Vl.enc) ((acc ++ [u8 2] ++ List.drop 0 (be7 (v.n + 9007199254740992))).map uEnc) ((i + 1 : Nat) : Int) γ _ = _)
      exact hih _ (by unfold encV; rw [h1]; simp)
    · rw [h1, decide_eq_false (by decide), cond_false, decide_eq_false (by decide), cond_false, decide_eq_true (rfl : (3 : Int) = 3), cond_true]
      rw [snoc_u, sized_u, bytesEs_u, sized_u, List.length_map, List.length_map, room2 (by simp; omega) (by rw [hs]; omega)]
      simp only [Bool.and_true, cond_true]
      rw [← List.map_append]
      exact hih _ (by unfold encV; rw [h1]; simp)

theorem ref02_Put_eq (l : List Vl) (h : okR l = true) (γ : Type) (K : List (List Dat) → Option γ) : Sp.ref02_Put (l.map Vl.enc) γ K = K ((encR l).map uEnc) := by
  simp only [okR, Bool.and_eq_true, decide_eq_true_eq] at h
  unfold Sp.ref02_Put Sp.B_ref02_Put
  rw [List.length_map, uEnc_wrap]
  refine (ref_Put_loop l h.2 h.1 γ K l.length 0 fuel [u8 (Int.ofNat l.length)] (by omega) (by unfold fuel; omega) (by simp)).trans ?_
  rw [List.drop_zero]
  rfl

theorem row_size_eq (v : Vl) (hv : v.ok = true) (γ : Type) (K : Int → Option γ) : Sp.row_size v.k v.n v.s γ K = K ((encV v).length : Int) := by
  have hs : v.s.data.toList.length = v.s.size := Array.length_toList
  unfold Sp.row_size Sp.B_row_size encV
  rcases ok_cases hv with rfl | ⟨h1, h2, h3⟩ | ⟨h1, h2, h3⟩ | ⟨h1, h2, h3⟩
  · rfl
  · rw [h1]; rfl
  · rw [h1]; rfl
  · rw [h1, decide_eq_false (by decide), cond_false, decide_eq_false (by decide), cond_false, decide_eq_true (rfl : (3 : Int) = 3), cond_true, if_neg (by decide), if_neg (by decide), if_pos rfl,
      wrap_i64 (by simp only [Int.ofNat_eq_natCast]; omega)]
    congr 1
    simp only [List.length_cons, hs, Int.ofNat_eq_natCast]
    omega

theorem Size_loop (l : List Vl) (hl : l.length ≤ 32) (hok : l.all Vl.ok = true) (γ : Type) (K : Int → Option γ) : ∀ (d i n z : Nat), l.length = i + d → d < n → z ≤ 1 + 66 * i →
    Sp.row_Size_L0 n (l.map Vl.enc) (Int.ofNat l.length) (z : Int) (i : Int) γ (fun z4 z5 z6 => bif Ex.isExit z4 0 then K z5 else bif Ex.isRet z4 then none else none) = K ((z + ((l.drop i).flatMap encV).length : Nat) : Int) := by
  intro d
  induction d with
  | zero =>
    intro i n z hi hn hz
    obtain ⟨n, rfl⟩ : ∃ k, n = k + 1 := ⟨n - 1, by omega⟩
    unfold Sp.row_Size_L0 Sp.B_row_Size_L0
    rw [lt_f (by omega), List.drop_eq_nil_of_le (by omega)]
    rfl
  | succ d ih =>
    intro i n z hi hn hz
    obtain ⟨n, rfl⟩ : ∃ k, n = k + 1 := ⟨n - 1, by omega⟩
    obtain ⟨c, hcc, hdc⟩ := dropv_cons (show i < l.length by omega)
    have hc := List.all_eq_true.1 hok c (List.mem_of_getElem? hcc)
    have hlen := encV_len hc
    unfold Sp.row_Size_L0 Sp.B_row_Size_L0
    have e : IntKind.wrap IntKind.i64 ((z : Int) + ((encV c).length : Int)) = ((z + (encV c).length : Nat) : Int) := by rw [wrap_i64 (by omega)]; omega
    rw [lt_t (by omega), cond_true, elemAt_enc hcc, vl_cells, row_size_eq c hc, e, hdc, next_i (by omega), ih (i + 1) n _ (by omega) (by omega) (by omega)]
    simp only [List.flatMap_cons, List.length_append, Nat.add_assoc]

theorem row_Size_eq (l : List Vl) (hl : l.length ≤ 1000) (γ : Type) (K : Int → Option γ) : Sp.row_Size (l.map Vl.enc) γ K = K (cond (okR l) ((encR l).length : Int) 0) := by
  unfold Sp.row_Size Sp.B_row_Size
  rw [row_Check_eq l hl]
  cases h : okR l with
  | false => rfl
  | true =>
    simp only [okR, Bool.and_eq_true, decide_eq_true_eq] at h
    rw [cond_true, cond_true, decide_eq_true (rfl : (0 : Int) = 0), Bool.not_true, cond_false, List.length_map]
    refine (Size_loop l h.2 h.1 γ K l.length 0 fuel 1 (by omega) (by unfold fuel; omega) (by omega)).trans ?_
    rw [List.drop_zero]
    congr 1
    simp only [encR, List.length_cons]
    omega
end Go.Proofs.YtimdilbcijgadaaGreatDoor

/- The plain laws of rows, V: what bytes say. -/
import Derived.Test.YtcglmokfjohdaaaK7
set_option linter.unusedVariables false
set_option linter.unusedSimpArgs false
namespace Go.Proofs.Ytcglmokfjohdaaa
open Go Go.Aev Go.RowKit
set_option maxRecDepth 100000

def num7 (l : List UInt8) : Nat := l.foldl (fun a b => 256 * a + b.toNat) 0
def chk (v : Vl) (n : Nat) : Option (Vl × Nat) := if v.ok = true then some (v, n) else none
/-- the value with which bytes begin -/
def decV : List UInt8 → Option (Vl × Nat)
  | [] => none
  | k :: r =>
    if k.toNat = 0 then some (⟨0, 0, bs []⟩, 1)
    else if k.toNat = 1 then (match r with
      | c :: _ => chk ⟨1, c.toNat, bs []⟩ 2
      | [] => none)
    else if k.toNat = 2 then (if 7 ≤ r.length then chk ⟨2, (num7 (r.take 7) : Int) - 9007199254740992, bs []⟩ 8 else none)
    else if k.toNat = 3 then (match r with
      | c :: r' => if c.toNat ≤ r'.length then chk ⟨3, 0, mk (r'.take c.toNat)⟩ (2 + c.toNat) else none
      | [] => none)
    else none
theorem decV_cons (k : UInt8) (r : List UInt8) : decV (k :: r) =
    if k.toNat = 0 then some (⟨0, 0, bs []⟩, 1)
    else if k.toNat = 1 then (match r with
      | c :: _ => chk ⟨1, c.toNat, bs []⟩ 2
      | [] => none)
    else if k.toNat = 2 then (if 7 ≤ r.length then chk ⟨2, (num7 (r.take 7) : Int) - 9007199254740992, bs []⟩ 8 else none)
    else if k.toNat = 3 then (match r with
      | c :: r' => if c.toNat ≤ r'.length then chk ⟨3, 0, mk (r'.take c.toNat)⟩ (2 + c.toNat) else none
      | [] => none)
    else none := rfl
def decM : Nat → List UInt8 → Option (List Vl × Nat)
  | 0, _ => some ([], 0)
  | m + 1, r => match decV r with
    | none => none
    | some (v, n) => match decM m (r.drop n) with
      | none => none
      | some (l, q) => some (v :: l, n + q)
def decR : List UInt8 → Option (List Vl × Nat)
  | [] => none
  | k :: r => if 32 < k.toNat then none else match decM k.toNat r with
    | none => none
    | some (l, q) => some (l, 1 + q)

theorem u_lt (c : UInt8) : c.toNat < 256 := c.toNat_lt
theorem uEnc_cell {β : Type} (c : UInt8) (F : Int → Option β) : (bif List.length (uEnc c) == 1 then cellAt (uEnc c) 0 fun z8 => Aev.asInt IntKind.u8 z8 fun z9 => F z9 else none) = F (c.toNat : Int) := rfl
theorem wrap_c (c : UInt8) : IntKind.wrap .i64 (c.toNat : Int) = (c.toNat : Int) := by
  have := u_lt c
  rw [wrap_i64 (by omega)]
theorem esBytes_u : ∀ l : List UInt8, esBytes (l.map uEnc) = some l
  | [] => rfl
  | c :: l => by
    show (esBytes (l.map uEnc)).map _ = _
    rw [esBytes_u l]
    simp

/-! ### the reader -/
theorem replicate_u (n : Nat) : List.replicate n [Dat.int IntKind.u8 0] = (List.replicate n (0 : UInt8)).map uEnc := by
  rw [List.map_replicate]; rfl

theorem next_bad (n : Nat) (hn : n ≤ 255) (b0 : List (List Dat)) (b1 : Int) (γ : Type) (K : List (List Dat) → List (List Dat) → Int → Bool → Option γ) :
    Sp.row_reader_next (n : Int) b0 b1 true γ K = K ((List.replicate n (0 : UInt8)).map uEnc) b0 b1 true := by
  unfold Sp.row_reader_next Sp.B_row_reader_next
  rw [cond_true, decide_eq_true (show (0 : Int) ≤ (n : Int) by omega), decide_eq_true (Int.le_refl _), decide_eq_true (show (n : Int) * 2 ≤ 70368744177664 by omega), Int.toNat_natCast, replicate_u]
  rfl

theorem next_eq (n : Nat) (hn : n ≤ 255) (B : List UInt8) (hB : B.length ≤ 10000) (a : Nat) (ha : a ≤ B.length) (γ : Type) (K : List (List Dat) → List (List Dat) → Int → Bool → Option γ) :
    Sp.row_reader_next (n : Int) (B.map uEnc) (a : Int) false γ K = cond (decide (n ≤ B.length - a)) (K (((B.drop a).take n).map uEnc) (B.map uEnc) ((a + n : Nat) : Int) false) (K ((List.replicate n (0 : UInt8)).map uEnc) (B.map uEnc) (a : Int) true) := by
  unfold Sp.row_reader_next Sp.B_row_reader_next
  have e1 : IntKind.wrap IntKind.i64 (Int.ofNat (List.length (B.map uEnc)) - (a : Int)) = ((B.length - a : Nat) : Int) := by
    rw [List.length_map]
    simp only [Int.ofNat_eq_natCast]
    rw [wrap_i64 (by omega)]; omega
  have e2 : IntKind.wrap IntKind.i64 ((a : Int) + (n : Int)) = ((a + n : Nat) : Int) := by rw [wrap_i64 (by omega)]; omega
  have e3 : IntKind.wrap IntKind.i64 (((a + n : Nat) : Int) - (n : Int)) = (a : Int) := by rw [wrap_i64 (by omega)]; omega
  rw [cond_false, e1, e2, e3]
  by_cases h : n ≤ B.length - a
  · rw [decide_eq_false (show ¬ ((B.length - a : Nat) : Int) < (n : Int) by omega), cond_false, decide_eq_true h, cond_true, List.length_map, decide_eq_true (show (0 : Int) ≤ (a : Int) by omega), decide_eq_true (show (a : Int) ≤ ((a + n : Nat) : Int) by omega),
      decide_eq_true (show ((a + n : Nat) : Int) ≤ Int.ofNat B.length by simp only [Int.ofNat_eq_natCast]; omega), sized_u, Int.toNat_natCast, Int.toNat_natCast, ← List.map_take, ← List.map_drop, List.drop_take, Nat.add_sub_cancel_left]
    rfl
  · rw [decide_eq_true (show ((B.length - a : Nat) : Int) < (n : Int) by omega), cond_true, decide_eq_false h, cond_false, decide_eq_true (show (0 : Int) ≤ (n : Int) by omega), decide_eq_true (Int.le_refl _), decide_eq_true (show (n : Int) * 2 ≤ 70368744177664 by omega), Int.toNat_natCast, replicate_u]
    rfl

theorem byte_bad (b0 : List (List Dat)) (b1 : Int) (γ : Type) (K : Int → List (List Dat) → Int → Bool → Option γ) : Sp.row_reader_byte b0 b1 true γ K = K 0 b0 b1 true := by
  unfold Sp.row_reader_byte Sp.B_row_reader_byte
  exact (next_bad 1 (by omega) b0 b1 γ _).trans rfl

theorem byte_eq (B : List UInt8) (hB : B.length ≤ 10000) (a : Nat) (ha : a ≤ B.length) (γ : Type) (K : Int → List (List Dat) → Int → Bool → Option γ) :
    Sp.row_reader_byte (B.map uEnc) (a : Int) false γ K = match B.drop a with
      | c :: _ => K (c.toNat : Int) (B.map uEnc) ((a + 1 : Nat) : Int) false
      | [] => K 0 (B.map uEnc) (a : Int) true := by
  unfold Sp.row_reader_byte Sp.B_row_reader_byte
  refine (next_eq 1 (by omega) B hB a ha γ _).trans ?_
  have hl : (B.drop a).length = B.length - a := List.length_drop
  cases h : B.drop a with
  | nil =>
    rw [h] at hl
    simp only [List.length_nil] at hl
    rw [decide_eq_false (by omega), cond_false]
    rfl
  | cons c r =>
    rw [h] at hl
    simp only [List.length_cons] at hl
    rw [decide_eq_true (by omega), cond_true]
    show K (IntKind.wrap .i64 (c.toNat : Int)) _ _ _ = _
    rw [wrap_c]

theorem or_step (n c : Nat) (hn : n < 281474976710656) (hc : c < 256) :
    IntKind.wrap IntKind.u64 (Int.ofNat (BitVec.toFin (BitVec.ofInt (IntKind.bits IntKind.u64) (IntKind.wrap IntKind.u64 ((n : Int) * 256)) ||| BitVec.ofInt (IntKind.bits IntKind.u64) (IntKind.wrap IntKind.u64 (c : Int)))).1) = ((256 * n + c : Nat) : Int) := by
  have w : ∀ x : Int, IntKind.wrap .u64 x = x % 18446744073709551616 := fun x => by
    unfold IntKind.wrap
    rfl
  have e1 : IntKind.wrap IntKind.u64 ((n : Int) * 256) = ((n * 256 : Nat) : Int) := by rw [w]; omega
  have e2 : IntKind.wrap IntKind.u64 (c : Int) = (c : Int) := by rw [w]; omega
  rw [e1, e2]
  have e3 : (BitVec.toFin (BitVec.ofInt (IntKind.bits IntKind.u64) ((n * 256 : Nat) : Int) ||| BitVec.ofInt (IntKind.bits IntKind.u64) (c : Int))).1 = 256 * n + c := by
    show (BitVec.ofInt 64 ((n * 256 : Nat) : Int) ||| BitVec.ofInt 64 (c : Int)).toNat = _
    rw [BitVec.toNat_or, BitVec.ofInt_natCast, BitVec.ofInt_natCast, BitVec.toNat_ofNat, BitVec.toNat_ofNat, Nat.mod_eq_of_lt (by omega), Nat.mod_eq_of_lt (by omega)]
    have := Nat.shiftLeft_add_eq_or_of_lt (i := 8) (b := c) (by omega) n
    rw [Nat.shiftLeft_eq] at this
    rw [show n * 256 = n * 2 ^ 8 from rfl, ← this]
    omega
  rw [e3, w]
  simp only [Int.ofNat_eq_natCast]
  omega

theorem pow_small {i : Nat} (h : i ≤ 6) {n : Nat} (hn : n < 256 ^ i) : n < 281474976710656 := by
  have : 256 ^ i ≤ 256 ^ 6 := Nat.pow_le_pow_right (by omega) h
  have e : (256 : Nat) ^ 6 = 281474976710656 := by decide
  omega

theorem value_loop (l : List UInt8) (hl : l.length ≤ 7) (x0 x1 : Int) (x2 : ByteArray) (y0 y1 : Int) (y2 : ByteArray) (b0 : List (List Dat)) (b1 : Int) (b2 : Bool) (γ : Type)
    (K : Ex → Int → Int → Int → Int → ByteArray → Int → Int → ByteArray → List (List Dat) → Int → Bool → Option γ) : ∀ (d i m n : Nat), l.length = i + d → d < m → n < 256 ^ i →
    Sp.row_reader_value_L1 m (l.map uEnc) (Int.ofNat (List.length (l.map uEnc))) (n : Int) (i : Int) x0 x1 x2 y0 y1 y2 b0 b1 b2 γ K = K (Ex.exit 1) (((l.drop i).foldl (fun a b => 256 * a + b.toNat) n : Nat) : Int) (l.length : Int) x0 x1 x2 y0 y1 y2 b0 b1 b2 := by
  intro d
  induction d with
  | zero =>
    intro i m n hi hm hn
    obtain ⟨m, rfl⟩ : ∃ k, m = k + 1 := ⟨m - 1, by omega⟩
    unfold Sp.row_reader_value_L1 Sp.B_row_reader_value_L1
    rw [List.length_map, lt_f (by omega), cond_false, List.drop_eq_nil_of_le (by omega), show i = l.length by omega]
    rfl
  | succ d ih =>
    intro i m n hi hm hn
    obtain ⟨m, rfl⟩ : ∃ k, m = k + 1 := ⟨m - 1, by omega⟩
    obtain ⟨c, hcc, hdc⟩ := dropv_cons (show i < l.length by omega)
    have hc := u_lt c
    have ih' := ih (i + 1) m (256 * n + c.toNat) (by omega) (by omega) (by rw [Nat.pow_succ]; omega)
    unfold Sp.row_reader_value_L1 Sp.B_row_reader_value_L1
    rw [List.length_map] at ih' ⊢
    rw [lt_t (by omega), cond_true, elemAt_map hcc, uEnc_cell, or_step n c.toNat (pow_small (by omega) hn) hc, next_i (by omega), ih', hdc]
    rfl

theorem ref_value_loop (B : List UInt8) (hB : 8 ≤ B.length) (x0 x1 : Int) (x2 : ByteArray) (y0 : Int) (y2 : ByteArray) (γ : Type)
    (K : Ex → Int → Int → Int → ByteArray → Int → Int → ByteArray → Option γ) : ∀ (d i m n : Nat), 8 = i + 1 + d → d < m → n < 256 ^ i → i ≤ 7 →
    Sp.ref02_getValue_L1 m (B.map uEnc) ((i + 1 : Nat) : Int) x0 x1 x2 y0 (n : Int) y2 γ K = K (Ex.exit 1) 8 x0 x1 x2 y0 ((((B.take 8).drop (i + 1)).foldl (fun a b => 256 * a + b.toNat) n : Nat) : Int) y2 := by
  intro d
  induction d with
  | zero =>
    intro i m n hi hm hn h7
    obtain ⟨m, rfl⟩ : ∃ k, m = k + 1 := ⟨m - 1, by omega⟩
    obtain rfl : i = 7 := by omega
    unfold Sp.ref02_getValue_L1 Sp.B_ref02_getValue_L1
    rw [decide_eq_false (by decide), cond_false, List.drop_eq_nil_of_le (by rw [List.length_take]; omega)]
    rfl
  | succ d ih =>
    intro i m n hi hm hn h7
    obtain ⟨m, rfl⟩ : ∃ k, m = k + 1 := ⟨m - 1, by omega⟩
    obtain ⟨c, hcc, _⟩ := dropv_cons (show i + 1 < B.length by omega)
    have hc := u_lt c
    have hd : (B.take 8).drop (i + 1) = c :: (B.take 8).drop (i + 1 + 1) := drop_get (by rw [List.getElem?_take, if_pos (by omega), hcc])
    have ih' := ih (i + 1) m (256 * n + c.toNat) (by omega) (by omega) (by rw [Nat.pow_succ]; omega) (by omega)
    have hs := pow_small (show i ≤ 6 by omega) hn
    unfold Sp.ref02_getValue_L1 Sp.B_ref02_getValue_L1
    have e1 : IntKind.wrap IntKind.i64 (256 * (n : Int)) = ((256 * n : Nat) : Int) := by rw [wrap_i64 (by omega)]; omega
    have e2 : IntKind.wrap IntKind.i64 (((256 * n : Nat) : Int) + (c.toNat : Int)) = ((256 * n + c.toNat : Nat) : Int) := by rw [wrap_i64 (by omega)]; omega
    rw [decide_eq_true (show ((i + 1 : Nat) : Int) < 8 by omega), cond_true, elemAt_map hcc, uEnc_cell, wrap_c, e1, e2, next_i (by omega), ih', hd]
    rfl

theorem num7_lt {l : List UInt8} (h : l.length = 7) : num7 l < 72057594037927936 := by
  match l, h with
  | [a, b, c, d, e, f, g], _ =>
    have := u_lt a; have := u_lt b; have := u_lt c; have := u_lt d; have := u_lt e; have := u_lt f; have := u_lt g
    simp only [num7, List.foldl_cons, List.foldl_nil]
    omega

theorem chk_some {v w : Vl} {n m : Nat} (h : chk v n = some (w, m)) : v.ok = true ∧ w = v ∧ m = n := by
  unfold chk at h
  split at h
  · rename_i hv; cases h; exact ⟨hv, rfl, rfl⟩
  · cases h

/-! ### ref: one value -/
theorem head0 {β : Type} (k : UInt8) (r : List UInt8) (F : List Dat → Option β) : elemAt ((k :: r).map uEnc) 0 F = F (uEnc k) := elemAt_map (l := k :: r) (i := 0) rfl F
theorem head1 {β : Type} (k c : UInt8) (r : List UInt8) (F : List Dat → Option β) : elemAt ((k :: c :: r).map uEnc) 1 F = F (uEnc c) := elemAt_map (l := k :: c :: r) (i := 1) rfl F

theorem getValue_eq (B : List UInt8) (hB : B.length ≤ 10000) (γ : Type) (K : Int → Int → ByteArray → Int → Option γ) :
    Sp.ref02_getValue (B.map uEnc) γ K = match decV B with
      | some (v, n) => K v.k v.n v.s (n : Int)
      | none => K 0 0 (bs []) 0 := by
  have hchk : ∀ (v : Vl) (n : Nat), (Sp.ref01_Check v.k v.n v.s γ fun z => bif !z then K 0 0 (bs []) 0 else K v.k v.n v.s (n : Int)) = match chk v n with
      | some (v, n) => K v.k v.n v.s (n : Int)
      | none => K 0 0 (bs []) 0 := by
    intro v n
    rw [ref01_Check_eq]
    unfold chk
    show (bif !v.ok then _ else _) = _
    cases v.ok <;> rfl
  unfold Sp.ref02_getValue Sp.B_ref02_getValue
  cases B with
  | nil => rfl
  | cons k r =>
    have hk := u_lt k
    rw [decide_eq_false (by simp only [List.map_cons, List.length_cons, Int.ofNat_eq_natCast]; omega), cond_false]
    simp only [head0, uEnc_cell, wrap_c, List.length_map, List.length_cons]
    rw [decV_cons]
    by_cases h0 : k.toNat = 0
    · rw [if_pos h0, h0]; rfl
    rw [if_neg h0, decide_eq_false (show ¬ (k.toNat : Int) = 0 by omega), cond_false]
    by_cases h1 : k.toNat = 1
    · rw [if_pos h1, h1]
      cases r with
      | nil => rfl
      | cons c r =>
        rw [decide_eq_true (by decide), cond_true, decide_eq_true (show (2 : Int) ≤ Int.ofNat ((c :: r).length + 1) by simp only [List.length_cons, Int.ofNat_eq_natCast]; omega), cond_true, head1, uEnc_cell, wrap_c]
        exact hchk ⟨1, c.toNat, bs []⟩ 2
    rw [if_neg h1, decide_eq_false (show ¬ (k.toNat : Int) = 1 by omega), cond_false]
    by_cases h2 : k.toNat = 2
    · rw [if_pos h2, h2, decide_eq_true (by decide), cond_true]
      by_cases h8 : 7 ≤ r.length
      · rw [decide_eq_true (show (8 : Int) ≤ Int.ofNat (r.length + 1) by simp only [Int.ofNat_eq_natCast]; omega), cond_true, if_pos h8]
        have hl : (r.take 7).length = 7 := by rw [List.length_take]; omega
        have hn := num7_lt hl
        refine (ref_value_loop (k :: r) (by simp; omega) 0 0 (bs []) 2 (bs []) γ _ 7 0 fuel 0 (by omega) (by unfold fuel; omega) (by decide) (by omega)).trans ?_
        show (Sp.ref01_Check 2 (IntKind.wrap .i64 ((num7 (r.take 7) : Int) - 9007199254740992)) (bs []) γ fun z27 => bif !z27 then K 0 0 (bs []) 0 else K 2 (IntKind.wrap .i64 ((num7 (r.take 7) : Int) - 9007199254740992)) (bs []) 8) = _
        rw [wrap_i64 (by omega)]
        exact hchk ⟨2, (num7 (r.take 7) : Int) - 9007199254740992, bs []⟩ 8
      · rw [decide_eq_false (show ¬ (8 : Int) ≤ Int.ofNat (r.length + 1) by simp only [Int.ofNat_eq_natCast]; omega), cond_false, if_neg h8]; rfl
    rw [if_neg h2, decide_eq_false (show ¬ (k.toNat : Int) = 2 by omega), cond_false]
    by_cases h3 : k.toNat = 3
    · rw [if_pos h3, h3, decide_eq_true (by decide), cond_true]
      cases r with
      | nil => rfl
      | cons c r =>
        have hc := u_lt c
        have e2 : IntKind.wrap IntKind.i64 (2 + (c.toNat : Int)) = ((2 + c.toNat : Nat) : Int) := by rw [wrap_i64 (by omega)]; omega
        have e3 : IntKind.wrap IntKind.i64 (Int.ofNat ((c :: r).length + 1) - 2) = (r.length : Int) := by
          simp only [List.length_cons, Int.ofNat_eq_natCast]
          simp only [List.length_cons] at hB
          rw [wrap_i64 (by omega)]; omega
        rw [decide_eq_true (show (2 : Int) ≤ Int.ofNat ((c :: r).length + 1) by simp only [List.length_cons, Int.ofNat_eq_natCast]; omega), cond_true, head1, uEnc_cell, wrap_c, e3]
        by_cases hcr : c.toNat ≤ r.length
        · rw [decide_eq_true (show (c.toNat : Int) ≤ (r.length : Int) by omega), cond_true, head1, uEnc_cell, wrap_c, e2, decide_eq_true (show (2 : Int) ≤ ((2 + c.toNat : Nat) : Int) by omega),
            decide_eq_true (show ((2 + c.toNat : Nat) : Int) ≤ Int.ofNat ((c :: r).length + 1) by simp only [List.length_cons, Int.ofNat_eq_natCast]; omega), sized_u, Int.toNat_natCast, ← List.map_take, ← List.map_drop]
          simp only [Bool.and_true, cond_true]
          have e5 : List.drop 2 (List.take (2 + c.toNat) (k :: c :: r)) = r.take c.toNat := by
            rw [Nat.add_comm 2]; rfl
          rw [e5, esBytes_u]
          show _ = match (if c.toNat ≤ r.length then chk ⟨3, 0, mk (r.take c.toNat)⟩ (2 + c.toNat) else none) with
            | some (v, n) => K v.k v.n v.s (n : Int)
            | none => K 0 0 (bs []) 0
          rw [if_pos hcr]
          exact hchk ⟨3, 0, mk (r.take c.toNat)⟩ (2 + c.toNat)
        · rw [decide_eq_false (show ¬ (c.toNat : Int) ≤ (r.length : Int) by omega), cond_false]
          show _ = match (if c.toNat ≤ r.length then chk ⟨3, 0, mk (r.take c.toNat)⟩ (2 + c.toNat) else none) with
            | some (v, n) => K v.k v.n v.s (n : Int)
            | none => K 0 0 (bs []) 0
          rw [if_neg hcr]
    · rw [if_neg h3, decide_eq_false (show ¬ (k.toNat : Int) = 3 by omega), cond_false]
end Go.Proofs.Ytcglmokfjohdaaa

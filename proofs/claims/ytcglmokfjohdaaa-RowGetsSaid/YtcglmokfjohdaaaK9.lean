/- The plain laws of rows, VI: rows there and back. -/
import Derived.Test.YtcglmokfjohdaaaK8
set_option linter.unusedVariables false
set_option linter.unusedSimpArgs false
namespace Go.Proofs.Ytcglmokfjohdaaa
open Go Go.Aev Go.RowKit
set_option maxRecDepth 100000

/-! ### bytes and values -/
theorem fdiv_e (n : Int) (k : Nat) : Int.fdiv n (2 ^ k) = n / (2 ^ k : Int) := Int.fdiv_eq_ediv_of_nonneg _ (Int.le_of_lt (Int.pow_pos (by decide)))
theorem be7_list (n : Int) : be7 n = [u8 (n / 281474976710656), u8 (n / 1099511627776), u8 (n / 4294967296), u8 (n / 16777216), u8 (n / 65536), u8 (n / 256), u8 n] := by
  have h : be7 n = [u8 (Int.fdiv n (2 ^ 48)), u8 (Int.fdiv n (2 ^ 40)), u8 (Int.fdiv n (2 ^ 32)), u8 (Int.fdiv n (2 ^ 24)), u8 (Int.fdiv n (2 ^ 16)), u8 (Int.fdiv n (2 ^ 8)), u8 (Int.fdiv n (2 ^ 0))] := rfl
  rw [h]
  simp only [fdiv_e]
  simp only [Int.pow_zero, Int.ediv_one, show (2 : Int) ^ 48 = 281474976710656 from rfl, show (2 : Int) ^ 40 = 1099511627776 from rfl, show (2 : Int) ^ 32 = 4294967296 from rfl, show (2 : Int) ^ 24 = 16777216 from rfl, show (2 : Int) ^ 16 = 65536 from rfl, show (2 : Int) ^ 8 = 256 from rfl]
theorem u8_nat (x : Int) : ((u8 x).toNat : Int) = x % 256 := by
  unfold u8
  simp only [UInt8.toNat_ofNat']
  omega
theorem u8_eq {x : Int} {c : UInt8} (h : x % 256 = (c.toNat : Int)) : u8 x = c := by
  apply UInt8.toNat_inj.1
  have := u8_nat x
  omega

theorem num_be {n : Int} (h : 0 ≤ n ∧ n < 72057594037927936) : (num7 (be7 n) : Int) = n := by
  rw [be7_list]
  simp only [num7, List.foldl_cons, List.foldl_nil]
  have := u8_nat (n / 281474976710656); have := u8_nat (n / 1099511627776); have := u8_nat (n / 4294967296); have := u8_nat (n / 16777216); have := u8_nat (n / 65536); have := u8_nat (n / 256); have := u8_nat n
  omega

theorem be_num {l : List UInt8} (h : l.length = 7) : be7 (num7 l : Int) = l := by
  match l, h with
  | [a, b, c, d, e, f, g], _ =>
    have := u_lt a; have := u_lt b; have := u_lt c; have := u_lt d; have := u_lt e; have := u_lt f; have := u_lt g
    rw [be7_list]
    simp only [num7, List.foldl_cons, List.foldl_nil]
    rw [u8_eq (c := a) (by omega), u8_eq (c := b) (by omega), u8_eq (c := c) (by omega), u8_eq (c := d) (by omega), u8_eq (c := e) (by omega), u8_eq (c := f) (by omega), u8_eq (c := g) (by omega)]

theorem mk_str (s : ByteArray) : mk s.data.toList = s := mk_data s

theorem dec_enc {v : Vl} (h : v.ok = true) (more : List UInt8) : decV (encV v ++ more) = some (v, (encV v).length) := by
  have hs : v.s.data.toList.length = v.s.size := Array.length_toList
  have hc : ∀ n, chk v n = some (v, n) := fun n => by unfold chk; rw [if_pos h]
  have huk : ((u8 v.k).toNat : Int) = v.k % 256 := u8_nat v.k
  have hun : ((u8 v.n).toNat : Int) = v.n % 256 := u8_nat v.n
  unfold encV
  rw [List.cons_append, decV_cons]
  rcases ok_cases h with rfl | ⟨h1, h2, h3⟩ | ⟨h1, h2, h3⟩ | ⟨h1, h2, h3⟩
  · rfl
  · rw [if_neg (by omega), if_pos (by omega), if_pos h1, List.singleton_append]
    show chk ⟨1, ((u8 v.n).toNat : Int), bs []⟩ 2 = _
    rw [hun, show v.n % 256 = v.n by omega, ← h1, ← h3]
    exact hc 2
  · rw [show (if v.k = 1 then [u8 v.n] else if v.k = 2 then be7 (v.n + 9007199254740992) else if v.k = 3 then u8 v.s.size :: v.s.data.toList else []) = be7 (v.n + 9007199254740992) by rw [if_neg (by omega), if_pos h1],
      if_neg (by omega), if_neg (by omega), if_pos (by omega), if_pos (by rw [List.length_append, be7_len]; omega)]
    have e : (be7 (v.n + 9007199254740992) ++ more).take 7 = be7 (v.n + 9007199254740992) := by
      rw [List.take_append_of_le_length (by rw [be7_len]; exact Nat.le_refl _), List.take_of_length_le (by rw [be7_len]; exact Nat.le_refl _)]
    rw [e, num_be (by omega), Int.add_sub_cancel, ← h1, ← h3, List.length_cons, be7_len]
    exact hc 8
  · rw [if_neg (by omega), if_neg (by omega), if_neg (by omega), if_pos (by omega), if_neg (by omega), if_neg (by omega), if_pos h1, List.cons_append]
    have hsz : (u8 (v.s.size : Int)).toNat = v.s.size := by
      have := u8_nat (v.s.size : Int)
      omega
    show (if (u8 (v.s.size : Int)).toNat ≤ (v.s.data.toList ++ more).length then chk ⟨3, 0, mk ((v.s.data.toList ++ more).take (u8 (v.s.size : Int)).toNat)⟩ (2 + (u8 (v.s.size : Int)).toNat) else none) = _
    rw [hsz, if_pos (by rw [List.length_append, hs]; omega), List.take_append_of_le_length (by omega), List.take_of_length_le (by omega), mk_str, ← h1, ← h2, List.length_cons, List.length_cons, hs, Nat.add_comm 2]
    exact hc _

theorem enc_dec {r : List UInt8} {v : Vl} {n : Nat} (h : decV r = some (v, n)) : v.ok = true ∧ encV v = r.take n ∧ n ≤ r.length := by
  cases r with
  | nil => cases h
  | cons k r =>
    have hk := u_lt k
    have e : ∀ x : Nat, k.toNat = x → u8 (x : Int) = k := fun x hx => u8_eq (by omega)
    rw [decV_cons] at h
    by_cases h0 : k.toNat = 0
    · rw [if_pos h0] at h
      cases h
      refine ⟨by decide, ?_, by simp⟩
      show [u8 0] = [k]
      rw [show u8 0 = k from e 0 h0]
    rw [if_neg h0] at h
    by_cases h1 : k.toNat = 1
    · rw [if_pos h1] at h
      cases r with
      | nil => cases h
      | cons c r =>
        obtain ⟨hv, rfl, rfl⟩ := chk_some h
        refine ⟨hv, ?_, by simp⟩
        show [u8 1, u8 (c.toNat : Int)] = [k, c]
        rw [show u8 1 = k from e 1 h1, u8_eq (c := c) (by have := u_lt c; omega)]
    rw [if_neg h1] at h
    by_cases h2 : k.toNat = 2
    · rw [if_pos h2] at h
      by_cases h8 : 7 ≤ r.length
      · rw [if_pos h8] at h
        obtain ⟨hv, rfl, rfl⟩ := chk_some h
        refine ⟨hv, ?_, by simp; omega⟩
        show u8 2 :: be7 ((num7 (r.take 7) : Int) - 9007199254740992 + 9007199254740992) = k :: r.take 7
        rw [show u8 2 = k from e 2 h2, Int.sub_add_cancel, be_num (by rw [List.length_take]; omega)]
      · rw [if_neg h8] at h; cases h
    rw [if_neg h2] at h
    by_cases h3 : k.toNat = 3
    · rw [if_pos h3] at h
      cases r with
      | nil => cases h
      | cons c r =>
        simp only at h
        by_cases hc : c.toNat ≤ r.length
        · rw [if_pos hc] at h
          obtain ⟨hv, rfl, rfl⟩ := chk_some h
          refine ⟨hv, ?_, by simp; omega⟩
          show u8 3 :: u8 ((mk (r.take c.toNat)).size : Int) :: (mk (r.take c.toNat)).data.toList = List.take (2 + c.toNat) (k :: c :: r)
          rw [show u8 3 = k from e 3 h3, size_mk, data_mk, List.length_take, Nat.min_eq_left hc, u8_eq (c := c) (by have := u_lt c; omega), Nat.add_comm 2]
          rfl
        · rw [if_neg hc] at h; cases h
    · rw [if_neg h3] at h; cases h

theorem decM_enc : ∀ {l : List Vl}, l.all Vl.ok = true → ∀ more, decM l.length (l.flatMap encV ++ more) = some (l, (l.flatMap encV).length)
  | [], _, more => rfl
  | v :: l, h, more => by
    rw [List.all_cons, Bool.and_eq_true] at h
    rw [List.flatMap_cons, List.append_assoc, List.length_cons]
    unfold decM
    rw [dec_enc h.1]
    simp only
    rw [List.drop_left, decM_enc h.2 more, List.length_append]

theorem enc_decM : ∀ {m : Nat} {r : List UInt8} {l : List Vl} {q : Nat}, decM m r = some (l, q) → l.length = m ∧ l.all Vl.ok = true ∧ l.flatMap encV = r.take q ∧ q ≤ r.length
  | 0, r, l, q, h => by cases h; exact ⟨rfl, rfl, rfl, by omega⟩
  | m + 1, r, l, q, h => by
    unfold decM at h
    split at h
    · cases h
    · rename_i v n hv
      split at h
      · cases h
      · rename_i l' q' hl
        cases h
        obtain ⟨h1, h2, h3⟩ := enc_dec hv
        obtain ⟨h4, h5, h6, h7⟩ := enc_decM hl
        rw [List.length_drop] at h7
        refine ⟨by rw [List.length_cons, h4], by rw [List.all_cons, h1, h5]; rfl, ?_, by omega⟩
        rw [List.flatMap_cons, h2, h6, List.take_add]

theorem decR_cons (k : UInt8) (r : List UInt8) : decR (k :: r) = if 32 < k.toNat then none else match decM k.toNat r with
    | none => none
    | some (l, q) => some (l, 1 + q) := rfl
theorem decR_enc {l : List Vl} (h : okR l = true) (more : List UInt8) : decR (encR l ++ more) = some (l, (encR l).length) := by
  simp only [okR, Bool.and_eq_true, decide_eq_true_eq] at h
  have hu : (u8 (l.length : Int)).toNat = l.length := by
    have := u8_nat (l.length : Int)
    omega
  unfold encR
  rw [List.cons_append, decR_cons, hu, if_neg (by omega), decM_enc h.1]
  simp only [List.length_cons, Nat.add_comm 1]

theorem enc_decR {b : List UInt8} {l : List Vl} {q : Nat} (h : decR b = some (l, q)) : okR l = true ∧ encR l = b.take q ∧ q ≤ b.length := by
  cases b with
  | nil => cases h
  | cons k r =>
    rw [decR_cons] at h
    by_cases h32 : 32 < k.toNat
    · rw [if_pos h32] at h; cases h
    rw [if_neg h32] at h
    split at h
    · cases h
    · rename_i l' q' hl
      cases h
      obtain ⟨h1, h2, h3, h4⟩ := enc_decM hl
      refine ⟨by unfold okR; rw [h2, decide_eq_true (by omega)]; rfl, ?_, by simp; omega⟩
      unfold encR
      rw [h3, h1, u8_eq (c := k) (by have := u_lt k; omega), Nat.add_comm 1]
      rfl

end Go.Proofs.Ytcglmokfjohdaaa

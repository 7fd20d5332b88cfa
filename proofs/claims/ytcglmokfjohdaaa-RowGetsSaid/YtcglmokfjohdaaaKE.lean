/- The plain laws of rows, VII: how bytes are read. -/
import Derived.Test.YtcglmokfjohdaaaK9
set_option linter.unusedVariables false
set_option linter.unusedSimpArgs false
namespace Go.Proofs.Ytcglmokfjohdaaa
open Go Go.Aev Go.RowKit
set_option maxRecDepth 100000

/-! ### row.Get -/
theorem byte_cons (B : List UInt8) (hB : B.length ≤ 10000) (a : Nat) (ha : a ≤ B.length) {c : UInt8} {r : List UInt8} (h : B.drop a = c :: r) (γ : Type) (K : Int → List (List Dat) → Int → Bool → Option γ) :
    Sp.row_reader_byte (B.map uEnc) (a : Int) false γ K = K (c.toNat : Int) (B.map uEnc) ((a + 1 : Nat) : Int) false := by rw [byte_eq B hB a ha, h]
theorem byte_nil (B : List UInt8) (hB : B.length ≤ 10000) (a : Nat) (ha : a ≤ B.length) (h : B.drop a = []) (γ : Type) (K : Int → List (List Dat) → Int → Bool → Option γ) :
    Sp.row_reader_byte (B.map uEnc) (a : Int) false γ K = K 0 (B.map uEnc) (a : Int) true := by rw [byte_eq B hB a ha, h]

theorem value_eq (B : List UInt8) (hB : B.length ≤ 10000) (a : Nat) (ha : a ≤ B.length) : ∃ (v : Vl) (a' : Nat) (bad : Bool),
    (∀ (γ : Type) (K : Int → Int → ByteArray → List (List Dat) → Int → Bool → Option γ), Sp.row_reader_value (B.map uEnc) (a : Int) false γ K = K v.k v.n v.s (B.map uEnc) (a' : Int) bad) ∧
    (match decV (B.drop a) with
      | some (w, n) => v = w ∧ a' = a + n ∧ bad = false
      | none => bad = true) := by
  have hl : (B.drop a).length = B.length - a := List.length_drop
  have hz : ∀ (z : Int), (!decide (z = 0)) = true ∨ (!decide (z = 0)) = false := fun z => by cases (!decide (z = 0)) <;> simp
  have hck : ∀ (v : Vl) (γ : Type) (K : Int → Option γ), Sp.value_Check v.k v.n v.s γ K = K (cond v.ok 0 10) := fun v γ K => value_Check_eq _ _ _ _ _
  have hnb : ∀ v : Vl, (!decide ((cond v.ok (0 : Int) 10) = 0)) = !v.ok := fun v => by cases v.ok <;> rfl
  cases h : B.drop a with
  | nil =>
    refine ⟨⟨0, 0, bs []⟩, a, true, fun γ K => ?_, rfl⟩
    unfold Sp.row_reader_value Sp.B_row_reader_value
    rw [byte_nil B hB a ha h]
    rfl
  | cons k r =>
    have hk := u_lt k
    rw [h] at hl
    simp only [List.length_cons] at hl
    have h1' : B.drop (a + 1) = r := by rw [← List.drop_drop, h]; rfl
    rw [decV_cons]
    by_cases h0 : k.toNat = 0
    · rw [if_pos h0]
      refine ⟨⟨0, 0, bs []⟩, a + 1, false, fun γ K => ?_, rfl, rfl, rfl⟩
      unfold Sp.row_reader_value Sp.B_row_reader_value
      rw [byte_cons B hB a ha h, show (k.toNat : Int) = 0 by omega, decide_eq_false (show ¬ (0 : Int) = 1 by decide), cond_false, decide_eq_false (show ¬ (0 : Int) = 2 by decide), cond_false, decide_eq_false (show ¬ (0 : Int) = 3 by decide), cond_false, cond_false]
      refine (hck ⟨0, 0, bs []⟩ γ _).trans ?_
      rfl
    rw [if_neg h0]
    by_cases h1 : k.toNat = 1
    · rw [if_pos h1]
      cases r with
      | nil =>
        refine ⟨⟨1, 0, bs []⟩, a + 1, true, fun γ K => ?_, rfl⟩
        unfold Sp.row_reader_value Sp.B_row_reader_value
        rw [byte_cons B hB a ha h, show (k.toNat : Int) = 1 by omega, decide_eq_true (rfl : (1 : Int) = 1), cond_true]
        show Sp.row_reader_byte (B.map uEnc) ((a + 1 : Nat) : Int) false γ _ = _
        rw [byte_nil B hB (a + 1) (by omega) h1']
        rfl
      | cons c r =>
        simp only
        refine ⟨⟨1, c.toNat, bs []⟩, a + 2, !(⟨1, c.toNat, bs []⟩ : Vl).ok, fun γ K => ?_, ?_⟩
        · unfold Sp.row_reader_value Sp.B_row_reader_value
          rw [byte_cons B hB a ha h, show (k.toNat : Int) = 1 by omega, decide_eq_true (rfl : (1 : Int) = 1), cond_true]
          show Sp.row_reader_byte (B.map uEnc) ((a + 1 : Nat) : Int) false γ _ = _
          rw [byte_cons B hB (a + 1) (by omega) h1']
          show Sp.value_Check (⟨1, c.toNat, bs []⟩ : Vl).k (⟨1, c.toNat, bs []⟩ : Vl).n (⟨1, c.toNat, bs []⟩ : Vl).s γ _ = _
          rw [hck, hnb]
        · unfold chk
          cases hv : (⟨1, c.toNat, bs []⟩ : Vl).ok with
          | true => exact ⟨rfl, rfl, rfl⟩
          | false => rfl
    rw [if_neg h1]
    by_cases h2 : k.toNat = 2
    · rw [if_pos h2]
      have e1 : decide ((2 : Int) = 1) = false := rfl
      by_cases h8 : 7 ≤ r.length
      · rw [if_pos h8]
        have hl7 : (r.take 7).length = 7 := by rw [List.length_take]; omega
        have hn := num7_lt hl7
        refine ⟨⟨2, (num7 (r.take 7) : Int) - 9007199254740992, bs []⟩, a + 8, !(⟨2, (num7 (r.take 7) : Int) - 9007199254740992, bs []⟩ : Vl).ok, fun γ K => ?_, ?_⟩
        · unfold Sp.row_reader_value Sp.B_row_reader_value
          rw [byte_cons B hB a ha h, show (k.toNat : Int) = 2 by omega, decide_eq_false (show ¬ (2 : Int) = 1 by decide), cond_false, decide_eq_true (rfl : (2 : Int) = 2), cond_true]
          show Sp.row_reader_next ((7 : Nat) : Int) (B.map uEnc) ((a + 1 : Nat) : Int) false γ _ = _
          rw [next_eq 7 (by omega) B hB (a + 1) (by omega), decide_eq_true (by omega), cond_true, h1']
          refine (value_loop (r.take 7) (by omega) 0 0 (bs []) 2 0 (bs []) _ _ _ γ _ 7 0 fuel 0 (by omega) (by unfold fuel; omega) (by decide)).trans ?_
          have e7 : IntKind.wrap .i64 (IntKind.wrap .i64 (num7 (r.take 7) : Int) - 9007199254740992) = (num7 (r.take 7) : Int) - 9007199254740992 := by
            rw [wrap_i64 (n := (num7 (r.take 7) : Int)) (by omega), wrap_i64 (by omega)]
          show (Sp.value_Check 2 (IntKind.wrap .i64 (IntKind.wrap .i64 (num7 (r.take 7) : Int) - 9007199254740992)) (bs []) γ fun z30 => K 2 (IntKind.wrap .i64 (IntKind.wrap .i64 (num7 (r.take 7) : Int) - 9007199254740992)) (bs []) (B.map uEnc) ((a + 1 + 7 : Nat) : Int) !decide (z30 = 0)) = _
          rw [e7]
          refine (hck ⟨2, (num7 (r.take 7) : Int) - 9007199254740992, bs []⟩ γ _).trans ?_
          rw [hnb]
        · unfold chk
          cases hv : (⟨2, (num7 (r.take 7) : Int) - 9007199254740992, bs []⟩ : Vl).ok with
          | true => exact ⟨rfl, rfl, rfl⟩
          | false => rfl
      · rw [if_neg h8]
        refine ⟨⟨2, -9007199254740992, bs []⟩, a + 1, true, fun γ K => ?_, rfl⟩
        unfold Sp.row_reader_value Sp.B_row_reader_value
        rw [byte_cons B hB a ha h, show (k.toNat : Int) = 2 by omega, decide_eq_false (show ¬ (2 : Int) = 1 by decide), cond_false, decide_eq_true (rfl : (2 : Int) = 2), cond_true]
        show Sp.row_reader_next ((7 : Nat) : Int) (B.map uEnc) ((a + 1 : Nat) : Int) false γ _ = _
        rw [next_eq 7 (by omega) B hB (a + 1) (by omega), decide_eq_false (by omega), cond_false]
        refine (value_loop (List.replicate 7 0) (by simp) 0 0 (bs []) 2 0 (bs []) _ _ _ γ _ 7 0 fuel 0 (by simp) (by unfold fuel; omega) (by decide)).trans ?_
        rfl
    rw [if_neg h2]
    by_cases h3 : k.toNat = 3
    · rw [if_pos h3]
      cases r with
      | nil =>
        refine ⟨⟨3, 0, mk []⟩, a + 1, true, fun γ K => ?_, rfl⟩
        unfold Sp.row_reader_value Sp.B_row_reader_value
        rw [byte_cons B hB a ha h, show (k.toNat : Int) = 3 by omega, decide_eq_false (show ¬ (3 : Int) = 1 by decide), cond_false, decide_eq_false (show ¬ (3 : Int) = 2 by decide), cond_false, decide_eq_true (rfl : (3 : Int) = 3), cond_true]
        show Sp.row_reader_byte (B.map uEnc) ((a + 1 : Nat) : Int) false γ _ = _
        rw [byte_nil B hB (a + 1) (by omega) h1']
        show Sp.row_reader_next ((0 : Nat) : Int) (B.map uEnc) ((a + 1 : Nat) : Int) true γ _ = _
        rw [next_bad 0 (by omega)]
        rfl
      | cons c r =>
        have hc := u_lt c
        have h2' : B.drop (a + 1 + 1) = r := by rw [← List.drop_drop, h1']; rfl
        simp only [List.length_cons] at hl
        simp only
        by_cases hcr : c.toNat ≤ r.length
        · rw [if_pos hcr]
          refine ⟨⟨3, 0, mk (r.take c.toNat)⟩, a + (2 + c.toNat), !(⟨3, 0, mk (r.take c.toNat)⟩ : Vl).ok, fun γ K => ?_, ?_⟩
          · unfold Sp.row_reader_value Sp.B_row_reader_value
            rw [byte_cons B hB a ha h, show (k.toNat : Int) = 3 by omega, decide_eq_false (show ¬ (3 : Int) = 1 by decide), cond_false, decide_eq_false (show ¬ (3 : Int) = 2 by decide), cond_false, decide_eq_true (rfl : (3 : Int) = 3), cond_true]
            show Sp.row_reader_byte (B.map uEnc) ((a + 1 : Nat) : Int) false γ _ = _
            rw [byte_cons B hB (a + 1) (by omega) h1']
            show Sp.row_reader_next (c.toNat : Int) (B.map uEnc) ((a + 1 + 1 : Nat) : Int) false γ _ = _
            rw [next_eq c.toNat (by omega) B hB (a + 1 + 1) (by omega), decide_eq_true (by omega), cond_true, h2']
            simp only [esBytes_u]
            refine (hck ⟨3, 0, mk (r.take c.toNat)⟩ γ _).trans ?_
            rw [hnb, show a + 1 + 1 + c.toNat = a + (2 + c.toNat) by omega]
            rfl
          · unfold chk
            cases hv : (⟨3, 0, mk (r.take c.toNat)⟩ : Vl).ok with
            | true => exact ⟨rfl, rfl, rfl⟩
            | false => rfl
        · rw [if_neg hcr]
          refine ⟨⟨3, 0, mk (List.replicate c.toNat 0)⟩, a + 1 + 1, true, fun γ K => ?_, rfl⟩
          unfold Sp.row_reader_value Sp.B_row_reader_value
          rw [byte_cons B hB a ha h, show (k.toNat : Int) = 3 by omega, decide_eq_false (show ¬ (3 : Int) = 1 by decide), cond_false, decide_eq_false (show ¬ (3 : Int) = 2 by decide), cond_false, decide_eq_true (rfl : (3 : Int) = 3), cond_true]
          show Sp.row_reader_byte (B.map uEnc) ((a + 1 : Nat) : Int) false γ _ = _
          rw [byte_cons B hB (a + 1) (by omega) h1']
          show Sp.row_reader_next (c.toNat : Int) (B.map uEnc) ((a + 1 + 1 : Nat) : Int) false γ _ = _
          rw [next_eq c.toNat (by omega) B hB (a + 1 + 1) (by omega), decide_eq_false (by omega), cond_false]
          simp only [esBytes_u]
          rfl
    · rw [if_neg h3]
      refine ⟨⟨k.toNat, 0, bs []⟩, a + 1, true, fun γ K => ?_, rfl⟩
      have hno : (⟨k.toNat, 0, bs []⟩ : Vl).ok = false := by
        cases hv : (⟨k.toNat, 0, bs []⟩ : Vl).ok with
        | false => rfl
        | true =>
          exfalso
          rcases ok_cases hv with h | ⟨h, _⟩ | ⟨h, _⟩ | ⟨h, _⟩
          · have := congrArg Vl.k h
            simp only at this
            omega
          · simp only at h; omega
          · simp only at h; omega
          · simp only at h; omega
      unfold Sp.row_reader_value Sp.B_row_reader_value
      rw [byte_cons B hB a ha h]
      rw [decide_eq_false (show ¬ (k.toNat : Int) = 1 by omega), cond_false, decide_eq_false (show ¬ (k.toNat : Int) = 2 by omega), cond_false, decide_eq_false (show ¬ (k.toNat : Int) = 3 by omega), cond_false, cond_false]
      refine (hck ⟨k.toNat, 0, bs []⟩ γ _).trans ?_
      rw [hnb, hno]
      rfl

def getK (γ : Type) (K : List (List Dat) → Int → Int → Option γ) (x : Option (List Vl × Nat)) : Option γ :=
  match x with
  | some (l, q) => K (l.map Vl.enc) (q : Int) 0
  | none => K [] 0 20

theorem decV_le {r : List UInt8} {v : Vl} {n : Nat} (h : decV r = some (v, n)) : n ≤ r.length := (enc_dec h).2.2

theorem Get_loop (B : List UInt8) (hB : B.length ≤ 10000) (z : Nat) (hz : z ≤ 32) (γ : Type) (K : List (List Dat) → Int → Int → Option γ) : ∀ (d i m : Nat) (acc : List Vl) (a : Nat), z = i + d → d < m → acc.length ≤ 100 + i → a ≤ B.length →
    Sp.row_Get_L0 m (z : Int) (acc.map Vl.enc) (i : Int) (B.map uEnc) (a : Int) false γ
      (fun z7 z8 z9 z10 z11 z12 => bif sized z8 3 then bif Ex.isExit z7 0 then bif z12 then K [] 0 20 else bif decide (32 < (z : Int)) then K [] 0 20 else K z8 z11 0 else bif Ex.isRet z7 then none else none else none) =
      match decM d (B.drop a) with
      | some (l, q) => K ((acc ++ l).map Vl.enc) ((a + q : Nat) : Int) 0
      | none => K [] 0 20 := by
  intro d
  induction d with
  | zero =>
    intro i m acc a hi hm hacc ha
    obtain ⟨m, rfl⟩ : ∃ k, m = k + 1 := ⟨m - 1, by omega⟩
    unfold Sp.row_Get_L0 Sp.B_row_Get_L0
    rw [sized_e, cond_true, decide_eq_false (show ¬ (i : Int) < (z : Int) by omega), cond_false]
    show (bif sized (acc.map Vl.enc) 3 then bif decide (32 < (z : Int)) then K [] 0 20 else K (acc.map Vl.enc) (a : Int) 0 else none) = K ((acc ++ []).map Vl.enc) ((a + 0 : Nat) : Int) 0
    rw [sized_e, cond_true, decide_eq_false (by omega), cond_false, List.append_nil]
    rfl
  | succ d ih =>
    intro i m acc a hi hm hacc ha
    obtain ⟨m, rfl⟩ : ∃ k, m = k + 1 := ⟨m - 1, by omega⟩
    obtain ⟨v, a', bad, hv, hspec⟩ := value_eq B hB a ha
    unfold Sp.row_Get_L0 Sp.B_row_Get_L0
    have hroom : decide ((List.length (acc.map Vl.enc) + 1) * 33 ≤ 70368744177664) = true := decide_eq_true (by rw [List.length_map]; omega)
    rw [sized_e, cond_true, decide_eq_true (show (i : Int) < (z : Int) by omega), cond_true, decide_eq_true (show (z : Int) ≤ 32 by omega), cond_true, Bool.not_false, cond_true, hv, hroom, next_i (by omega)]
    simp only [Bool.and_true, cond_true]
    rw [show acc.map Vl.enc ++ [[Dat.int IntKind.i64 v.k, Dat.int IntKind.i64 v.n, Dat.str v.s]] = (acc ++ [v]).map Vl.enc by rw [List.map_append]; rfl]
    unfold decM
    cases hdv : decV (B.drop a) with
    | none =>
      rw [hdv] at hspec
      simp only at hspec ⊢
      subst hspec
      cases m with
      | zero => omega
      | succ m =>
        unfold Sp.row_Get_L0 Sp.B_row_Get_L0
        rw [sized_e, cond_true, Bool.not_true, cond_false]
        have hexit : ∀ q, (bif sized ((acc ++ [v]).map Vl.enc) 3 then bif Ex.isExit (Ex.exit 0) 0 then bif true then K [] 0 20 else q else bif Ex.isRet (Ex.exit 0) then none else none else none) = K [] 0 20 := fun q => by rw [sized_e]; rfl
        by_cases h : ((i + 1 : Nat) : Int) < (z : Int)
        · rw [decide_eq_true h, cond_true, decide_eq_true (show (z : Int) ≤ 32 by omega), cond_true]
          exact hexit _
        · rw [decide_eq_false h, cond_false]
          exact hexit _
    | some w =>
      obtain ⟨w, n⟩ := w
      rw [hdv] at hspec
      simp only at hspec ⊢
      obtain ⟨rfl, rfl, rfl⟩ := hspec
      have hle := decV_le hdv
      rw [List.length_drop] at hle
      rw [ih (i + 1) m (acc ++ [v]) (a + n) (by omega) (by omega) (by simp; omega) (by omega), List.drop_drop]
      cases decM d (B.drop (a + n)) with
      | none => rfl
      | some x =>
        obtain ⟨l, q⟩ := x
        simp only
        rw [List.append_assoc, Nat.add_assoc]
        rfl

theorem row_Get_eq (B : List UInt8) (hB : B.length ≤ 10000) (γ : Type) (K : List (List Dat) → Int → Int → Option γ) :
    Sp.row_Get (B.map uEnc) γ K = match decR B with
      | some (l, q) => K (l.map Vl.enc) (q : Int) 0
      | none => K [] 0 20 := by
  unfold Sp.row_Get Sp.B_row_Get
  refine (byte_eq B hB 0 (by omega) γ _).trans ?_
  rw [List.drop_zero]
  cases B with
  | nil => 
    obtain ⟨m, hm⟩ : ∃ m, fuel = m + 1 := ⟨fuel - 1, by unfold fuel; omega⟩
    simp only
    rw [hm]
    unfold Sp.row_Get_L0 Sp.B_row_Get_L0
    rw [show sized [] 3 = true from rfl, cond_true, decide_eq_false (by decide), cond_false]
    rfl
  | cons k r =>
    have hk := u_lt k
    simp only
    by_cases h : 32 < k.toNat
    · rw [decR_cons, if_pos h]
      simp only
      obtain ⟨m, hm⟩ : ∃ m, fuel = m + 1 := ⟨fuel - 1, by unfold fuel; omega⟩
      rw [hm]
      unfold Sp.row_Get_L0 Sp.B_row_Get_L0
      rw [show sized [] 3 = true from rfl, cond_true, decide_eq_true (show (0 : Int) < (k.toNat : Int) by omega), cond_true, decide_eq_false (show ¬ (k.toNat : Int) ≤ 32 by omega), cond_false]
      show (bif decide (32 < (k.toNat : Int)) then K [] 0 20 else _) = _
      rw [decide_eq_true (by omega)]
      rfl
    · have := Get_loop (k :: r) hB k.toNat (by omega) γ K k.toNat 0 fuel [] 1 (by omega) (by unfold fuel; omega) (by simp) (by simp)
      refine this.trans ?_
      rw [decR_cons, if_neg h]
      show (match decM k.toNat r with
        | some (l, q) => _
        | none => _) = _
      cases decM k.toNat r <;> rfl

theorem ref_Get_loop (k : UInt8) (r : List UInt8) (hB : (k :: r).length ≤ 10000) (hz : k.toNat ≤ 32) (γ : Type) (K : List (List Dat) → Int → Bool → Option γ) : ∀ (d i m : Nat) (acc : List Vl) (a : Nat), k.toNat = i + d → d < m → acc.length ≤ 100 + i → a ≤ (k :: r).length →
    Sp.ref02_Get_L0 m ((k :: r).map uEnc) [] 0 false (a : Int) (acc.map Vl.enc) (i : Int) γ
      (fun z6 z7 z8 z9 z10 z11 z12 => bif sized z7 3 then bif sized z11 3 then bif Ex.isExit z6 0 then K z11 z10 true else bif Ex.isRet z6 then K z7 z8 z9 else none else none else none) =
      match decM d ((k :: r).drop a) with
      | some (l, q) => K ((acc ++ l).map Vl.enc) ((a + q : Nat) : Int) true
      | none => K [] 0 false := by
  intro d
  induction d with
  | zero =>
    intro i m acc a hi hm hacc ha
    obtain ⟨m, rfl⟩ : ∃ k, m = k + 1 := ⟨m - 1, by omega⟩
    unfold Sp.ref02_Get_L0 Sp.B_ref02_Get_L0
    rw [show sized [] 3 = true from rfl, cond_true, sized_e, cond_true, head0, uEnc_cell, wrap_c, decide_eq_false (show ¬ (i : Int) < (k.toNat : Int) by omega), cond_false]
    show (bif sized (acc.map Vl.enc) 3 then K (acc.map Vl.enc) (a : Int) true else none) = K ((acc ++ []).map Vl.enc) ((a + 0 : Nat) : Int) true
    rw [sized_e, cond_true, List.append_nil]
    rfl
  | succ d ih =>
    intro i m acc a hi hm hacc ha
    obtain ⟨m, rfl⟩ : ∃ k, m = k + 1 := ⟨m - 1, by omega⟩
    unfold Sp.ref02_Get_L0 Sp.B_ref02_Get_L0
    have hroom : decide ((List.length (acc.map Vl.enc) + 1) * 33 ≤ 70368744177664) = true := decide_eq_true (by rw [List.length_map]; omega)
    rw [show sized [] 3 = true from rfl, cond_true, sized_e, cond_true, head0, uEnc_cell, wrap_c, decide_eq_true (show (i : Int) < (k.toNat : Int) by omega), cond_true, decide_eq_true (show (0 : Int) ≤ (a : Int) by omega),
      decide_eq_true (show (a : Int) ≤ Int.ofNat (List.length ((k :: r).map uEnc)) by rw [List.length_map]; simp only [Int.ofNat_eq_natCast]; omega), decide_eq_true (Int.le_refl _), sized_u]
    have e1 : List.drop (Int.toNat (a : Int)) (List.take (Int.toNat (Int.ofNat (List.length ((k :: r).map uEnc)))) ((k :: r).map uEnc)) = ((k :: r).drop a).map uEnc := by
      show List.drop a (List.take (List.length ((k :: r).map uEnc)) ((k :: r).map uEnc)) = _
      rw [List.take_length, List.map_drop]
    rw [e1]
    simp only [Bool.and_true, cond_true]
    rw [getValue_eq ((k :: r).drop a) (by rw [List.length_drop]; omega)]
    unfold decM
    cases hdv : decV ((k :: r).drop a) with
    | none =>
      simp only [decide_true, cond_true]
      show (bif sized (acc.map Vl.enc) 3 then K [] 0 false else none) = _
      rw [sized_e]; rfl
    | some w =>
      obtain ⟨v, n⟩ := w
      simp only
      have hle := decV_le hdv
      rw [List.length_drop] at hle
      have hpos : 0 < n := by
        obtain ⟨_, h2, _⟩ := enc_dec hdv
        cases n with
        | zero => simp [encV] at h2
        | succ n => omega
      have e2 : IntKind.wrap IntKind.i64 ((a : Int) + (n : Int)) = ((a + n : Nat) : Int) := by rw [wrap_i64 (by omega)]; omega
      rw [decide_eq_false (show ¬ (n : Int) = 0 by omega), cond_false, hroom, e2, next_i (by omega), show acc.map Vl.enc ++ [[Dat.int IntKind.i64 v.k, Dat.int IntKind.i64 v.n, Dat.str v.s]] = (acc ++ [v]).map Vl.enc by rw [List.map_append]; rfl]
      simp only [Bool.and_true, cond_true]
      rw [ih (i + 1) m (acc ++ [v]) (a + n) (by omega) (by omega) (by simp; omega) (by omega), List.drop_drop]
      cases decM d ((k :: r).drop (a + n)) with
      | none => rfl
      | some x =>
        obtain ⟨l, q⟩ := x
        simp only
        rw [List.append_assoc, Nat.add_assoc]
        rfl

theorem ref02_Get_eq (B : List UInt8) (hB : B.length ≤ 10000) (γ : Type) (K : List (List Dat) → Int → Bool → Option γ) :
    Sp.ref02_Get (B.map uEnc) γ K = match decR B with
      | some (l, q) => K (l.map Vl.enc) (q : Int) true
      | none => K [] 0 false := by
  unfold Sp.ref02_Get Sp.B_ref02_Get
  cases B with
  | nil => rfl
  | cons k r =>
    have hk := u_lt k
    rw [decide_eq_false (by simp only [List.map_cons, List.length_cons, Int.ofNat_eq_natCast]; omega), cond_false, head0, uEnc_cell]
    rw [decR_cons]
    by_cases h : 32 < k.toNat
    · rw [if_pos h, decide_eq_true (by omega)]; rfl
    · rw [if_neg h, decide_eq_false (by omega), cond_false]
      refine (ref_Get_loop k r hB (by omega) γ K k.toNat 0 fuel [] 1 (by omega) (by unfold fuel; omega) (by simp) (by simp)).trans ?_
      rw [List.drop_succ_cons, List.drop_zero]
      cases decM k.toNat r with
      | none => rfl
      | some x =>
        obtain ⟨l, q⟩ := x
        rfl
end Go.Proofs.Ytcglmokfjohdaaa

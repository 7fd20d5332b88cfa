/- The scanner, in plain Lean: all tokens. -/
import Derived.Test.YtffhgjoemimmnaaDoorK5
set_option linter.unusedVariables false
set_option linter.unusedSimpArgs false
namespace Go.Proofs.YtffhgjoemimmnaaDoor
open Go Go.Aev Go.RowKit

/-! ### a token takes something, and no more than there is -/
theorem textL_le : ∀ (r t : List UInt8) (n : Nat), textL r = some (t, n) → 1 ≤ n ∧ n ≤ r.length
  | [], t, n, h => by cases h
  | [c], t, n, h => by
    unfold textL at h
    cases hc : c == 39 <;> rw [hc] at h <;> cases h
    simp
  | c :: d :: r, t, n, h => by
    unfold textL at h
    cases hc : c == 39 with
    | true =>
      rw [hc, cond_true] at h
      cases hd : d == 39 with
      | true =>
        rw [hd, cond_true, Option.map_eq_some_iff] at h
        obtain ⟨⟨t', n'⟩, h1, h2⟩ := h
        cases h2
        have := textL_le r t' n' h1
        simp only [List.length_cons]; omega
      | false =>
        rw [hd, cond_false] at h
        cases h
        simp
    | false =>
      rw [hc, cond_false, Option.map_eq_some_iff] at h
      obtain ⟨⟨t', n'⟩, h1, h2⟩ := h
      cases h2
      have := textL_le (d :: r) t' n' h1
      simp only [List.length_cons] at this ⊢; omega

theorem signOf_mem {r g : List UInt8} (h : signOf r = some g) : g ∈ signL ∧ g.isPrefixOf r = true := ⟨List.mem_of_find?_eq_some h, List.find?_some (p := fun g : List UInt8 => g.isPrefixOf r) h⟩
theorem signL_len : ∀ g ∈ signL, 1 ≤ g.length ∧ g.length ≤ 2 := by decide

theorem runN_pos {c : UInt8} {r : List UInt8} (h : isW c = true) : 1 ≤ runN (c :: r) := by
  unfold runN
  rw [List.takeWhile_cons, if_pos h]
  simp

theorem nextR_le {r : List UInt8} {t : Tk} (h : nextR r = some t) : 1 ≤ t.m ∧ t.m ≤ r.length := by
  unfold nextR at h
  split at h
  · cases h
  · rename_i c r'
    split at h
    · split at h
      · rename_i t' n hx
        split at h
        · cases h
          have := textL_le _ _ _ hx
          simp only [List.length_cons]; omega
        · cases h
      · cases h
    · split at h
      · rename_i h1 h2
        split at h
        · cases h
          exact ⟨runN_pos (by unfold isW; rw [h2]; simp), runN_le _⟩
        · cases h
      · split at h
        · rename_i h1 h2 h3
          split at h
          · cases h
            exact ⟨runN_pos (by unfold isW; rw [h3]; rfl), runN_le _⟩
          · cases h
        · rw [Option.map_eq_some_iff] at h
          obtain ⟨g, hg, rfl⟩ := h
          obtain ⟨h1, h2⟩ := signOf_mem hg
          refine ⟨(signL_len g h1).1, ?_⟩
          exact (List.isPrefixOf_iff_prefix.1 h2).length_le

theorem skipN_le : ∀ (n : Nat) (r : List UInt8), skipN n r ≤ r.length
  | 0, _ => Nat.zero_le _
  | n + 1, [] => Nat.le_refl _
  | n + 1, c :: r => by
    unfold skipN
    cases hr : remark (c :: r) with
    | true =>
      have h1 := lineN_le (c :: r)
      have h2 := skipN_le n ((c :: r).drop (lineN (c :: r)))
      rw [List.length_drop] at h2
      simp only [cond_true]; omega
    | false =>
      have := skipN_le n r
      cases blank c <;> simp <;> omega

/-! ### all tokens -/
structure T where
  k : Int
  s : List UInt8
  n : Int
  at_ : Nat

def enc (t : T) : List Dat := [.int .i64 t.k, .str (mk t.s), .int .i64 t.n, .int .i64 (t.at_ : Int)]
def skp (r : List UInt8) : Nat := skipN r.length r
theorem skp_le (r : List UInt8) : skp r ≤ r.length := skipN_le _ _

theorem sized_enc (o : List T) : sized (o.map enc) 4 = true := by
  unfold sized
  rw [List.all_eq_true]
  intro x hx
  obtain ⟨t, _, rfl⟩ := List.mem_map.1 hx
  rfl

/-- from a place where nothing is to be skipped: error, place, tokens -/
def lexR : Nat → List UInt8 → Nat → Nat → Int × Nat × List T
  | 0, _, i, _ => (0, i, [])
  | m + 1, r, i, c => if r = [] then (0, i, []) else match nextR r with
    | none => (90, i, [])
    | some t => if 4096 ≤ c then (3, i, []) else
      let k := skp (r.drop t.m)
      let q := lexR m ((r.drop t.m).drop k) (i + t.m + k) (c + 1)
      (q.1, q.2.1, ⟨t.k, t.s, t.n, i⟩ :: q.2.2)

def fin (l : List UInt8) (o : List T) (q : Int × Nat × List T) : List T × Nat × Int :=
  if q.1 = 0 then (if 4096 ≤ (o ++ q.2.2).length then ([], l.length, 3) else (o ++ q.2.2 ++ [⟨6, [], 0, l.length⟩], l.length, 0)) else ([], q.2.1, q.1)

def lexAll (l : List UInt8) : List T × Nat × Int := fin l [] (lexR l.length (l.drop (skp l)) (skp l) 0)

theorem all_loop (l : List UInt8) (hl : l.length ≤ 16777216) (γ : Type) (K : List (List Dat) → Int → Int → Option γ) : ∀ (d i n m : Nat) (o : List T), i ≤ l.length → l.length - i ≤ d → d < n → d ≤ m → o.length ≤ 4096 →
    (Sp.lex_All_L0 n (mk l) [] 0 0 (o.map enc) (mk l) (i : Int) γ fun (z5 : Ex) (z6 : List (List Dat)) (z7 z8 : Int) (z9 : List (List Dat)) (z10 : ByteArray) (z11 : Int) => bif sized z6 4 then bif sized z9 4 then bif Ex.isExit z5 0 then bif decide (4096 ≤ Int.ofNat (List.length z9)) then K [] (Int.ofNat (ByteArray.size (mk l))) 3 else bif sized z9 4 && true && true && decide ((List.length z9 + 1) * 41 ≤ 70368744177664) && true then K (z9 ++ [[Dat.int IntKind.i64 6, Dat.str (bs []), Dat.int IntKind.i64 0, Dat.int IntKind.i64 (Int.ofNat (ByteArray.size (mk l)))]]) (Int.ofNat (ByteArray.size (mk l))) 0 else none else bif Ex.isRet z5 then K z6 z7 z8 else none else none else none)
      = K ((fin l o (lexR m (l.drop i) i o.length)).1.map enc) (fin l o (lexR m (l.drop i) i o.length)).2.1 (fin l o (lexR m (l.drop i) i o.length)).2.2 := by
  have s0 : sized ([] : List (List Dat)) 4 = true := rfl
  have atEnd : ∀ (i n m : Nat) (o : List T), i = l.length → 0 < n → o.length ≤ 4096 → (Sp.lex_All_L0 n (mk l) [] 0 0 (o.map enc) (mk l) (i : Int) γ fun (z5 : Ex) (z6 : List (List Dat)) (z7 z8 : Int) (z9 : List (List Dat)) (z10 : ByteArray) (z11 : Int) => bif sized z6 4 then bif sized z9 4 then bif Ex.isExit z5 0 then bif decide (4096 ≤ Int.ofNat (List.length z9)) then K [] (Int.ofNat (ByteArray.size (mk l))) 3 else bif sized z9 4 && true && true && decide ((List.length z9 + 1) * 41 ≤ 70368744177664) && true then K (z9 ++ [[Dat.int IntKind.i64 6, Dat.str (bs []), Dat.int IntKind.i64 0, Dat.int IntKind.i64 (Int.ofNat (ByteArray.size (mk l)))]]) (Int.ofNat (ByteArray.size (mk l))) 0 else none else bif Ex.isRet z5 then K z6 z7 z8 else none else none else none)
      = K ((fin l o (lexR m (l.drop i) i o.length)).1.map enc) (fin l o (lexR m (l.drop i) i o.length)).2.1 (fin l o (lexR m (l.drop i) i o.length)).2.2 := by
    intro i n m o hi hn ho
    obtain ⟨n, rfl⟩ : ∃ k, n = k + 1 := ⟨n - 1, by omega⟩
    have hd : l.drop i = [] := List.drop_eq_nil_of_le (by omega)
    have hq : lexR m (l.drop i) i o.length = (0, i, []) := by
      rw [hd]
      cases m with
      | zero => rfl
      | succ m => simp [lexR]
    rw [hq]
    unfold Sp.lex_All_L0 Sp.B_lex_All_L0 fin
    rw [s0, sized_enc, cond_true, cond_true, left_eq, size_mk, decide_eq_false (by omega)]
    simp only [cond_false, cond_true, s0, sized_enc, Ex.isExit, beq_self_eq_true, List.length_map, List.append_nil, if_true, Int.ofNat_eq_natCast]
    by_cases h : 4096 ≤ o.length
    · rw [decide_eq_true (by omega), cond_true, if_pos h]
      rfl
    · rw [decide_eq_false (by omega), cond_false, if_neg h, decide_eq_true (show (o.length + 1) * 41 ≤ 70368744177664 by omega)]
      simp only [Bool.and_true, cond_true]
      rw [List.map_append]
      rfl
  intro d
  induction d with
  | zero => intro i n m o hi hd hn hm ho; exact atEnd i n m o (by omega) hn ho
  | succ d ih =>
    intro i n m o hi hd hn hm ho
    rcases Nat.lt_or_ge i l.length with hlt | hge
    case inr => exact atEnd i n m o (by omega) (by omega) ho
    obtain ⟨n, rfl⟩ : ∃ k, n = k + 1 := ⟨n - 1, by omega⟩
    obtain ⟨m, rfl⟩ : ∃ k, m = k + 1 := ⟨m - 1, by omega⟩
    have hne : l.drop i ≠ [] := by
      intro e
      have := congrArg List.length e
      rw [List.length_drop] at this
      simp at this; omega
    unfold Sp.lex_All_L0 Sp.B_lex_All_L0
    rw [s0, sized_enc, cond_true, cond_true, left_eq, size_mk, decide_eq_true (by omega)]
    simp only [cond_true]
    rw [lexR, if_neg hne]
    rcases next_eq l i hlt hl with ⟨t, h1, h2⟩ | ⟨h1, a, b, c, e, p, h2⟩
    · rw [h1, h2]
      have htm := nextR_le h1
      rw [List.length_drop] at htm
      simp only [Bool.not_true, cond_false, List.length_map, Int.ofNat_eq_natCast]
      by_cases hc : 4096 ≤ o.length
      · rw [decide_eq_true (by omega), cond_true, if_pos hc]
        simp [Ex.isExit, Ex.isRet, s0, sized_enc, fin]
      · rw [decide_eq_false (by omega), cond_false, if_neg hc, decide_eq_true (show (o.length + 1) * 41 ≤ 70368744177664 by omega)]
        simp only [Bool.and_true, cond_true]
        rw [skip_eq l (i + t.m) (by omega) hl]
        have hk := skp_le (l.drop (i + t.m))
        rw [List.length_drop] at hk
        have hmap : o.map enc ++ [[Dat.int .i64 t.k, Dat.str (mk t.s), Dat.int .i64 t.n, Dat.int .i64 (i : Int)]] = (o ++ [(⟨t.k, t.s, t.n, i⟩ : T)]).map enc := by
          rw [List.map_append]; rfl
        have hrec := ih (i + t.m + skp (l.drop (i + t.m))) n m (o ++ [(⟨t.k, t.s, t.n, i⟩ : T)]) (by omega) (by omega) (by omega) (by omega) (by simp; omega)
        rw [hmap]
        simp only [Bool.and_true, size_mk, Int.ofNat_eq_natCast] at hrec
        refine Eq.trans hrec ?_
        have hf : fin l (o ++ [(⟨t.k, t.s, t.n, i⟩ : T)]) (lexR m (l.drop (i + t.m + skp (l.drop (i + t.m)))) (i + t.m + skp (l.drop (i + t.m))) (o ++ [(⟨t.k, t.s, t.n, i⟩ : T)]).length) =
            fin l o ((lexR m (((l.drop i).drop t.m).drop (skp ((l.drop i).drop t.m))) (i + t.m + skp ((l.drop i).drop t.m)) (o.length + 1)).1, (lexR m (((l.drop i).drop t.m).drop (skp ((l.drop i).drop t.m))) (i + t.m + skp ((l.drop i).drop t.m)) (o.length + 1)).2.1, (⟨t.k, t.s, t.n, i⟩ : T) :: (lexR m (((l.drop i).drop t.m).drop (skp ((l.drop i).drop t.m))) (i + t.m + skp ((l.drop i).drop t.m)) (o.length + 1)).2.2) := by
          have e1 : (l.drop i).drop t.m = l.drop (i + t.m) := by rw [List.drop_drop]
          rw [e1, List.drop_drop, List.length_append, List.length_singleton]
          unfold fin
          simp only [List.append_assoc, List.singleton_append]
        rw [hf]
    · rw [h1, h2]
      simp [Ex.isExit, Ex.isRet, s0, sized_enc, fin]

theorem all_eq (l : List UInt8) (hl : l.length ≤ 16384) (γ : Type) (K : List (List Dat) → Int → Int → Option γ) : Sp.lex_All (mk l) γ K = K ((lexAll l).1.map enc) (lexAll l).2.1 (lexAll l).2.2 := by
  unfold Sp.lex_All Sp.B_lex_All
  rw [size_mk, decide_eq_false (by simp only [Int.ofNat_eq_natCast]; omega), cond_false, ← size_mk l]
  have h0 := skip_eq l 0 (by omega) (by omega) γ
  rw [List.drop_zero, Nat.zero_add] at h0
  refine Eq.trans (h0 _) ?_
  have := all_loop l (by omega) γ K l.length (skp l) fuel l.length [] (skp_le l) (by omega) (by unfold fuel; omega) (Nat.le_refl _) (by simp)
  exact this
end Go.Proofs.YtffhgjoemimmnaaDoor

/- The reference's Show. -/
import Derived.Test.YtffhgjoemimmnaaDoorK11
set_option linter.unusedVariables false
set_option linter.unusedSimpArgs false
namespace Go.Proofs.YtffhgjoemimmnaaDoor
open Go Go.Aev Go.RowKit

abbrev BE (a : List UInt8) : List (List Dat) := bytesEs (mk a)
theorem BE_eq (a : List UInt8) : BE a = a.map fun b => [.int .u8 b.toNat] := by unfold BE bytesEs; rw [data_mk]
theorem BE_app (a b : List UInt8) : BE a ++ BE b = BE (a ++ b) := by rw [BE_eq, BE_eq, BE_eq, List.map_append]
theorem BE_len (a : List UInt8) : (BE a).length = a.length := by rw [BE_eq, List.length_map]
theorem BE_one (c : UInt8) : ([[Dat.int .u8 (Int.ofNat (BitVec.toFin (UInt8.toBitVec c)).1)]] : List (List Dat)) = BE [c] := by rw [BE_eq]; rfl
theorem sized_BE (a : List UInt8) : sized (BE a) 1 = true := by
  rw [BE_eq]
  unfold sized
  rw [List.all_eq_true]
  intro x hx
  obtain ⟨t, _, rfl⟩ := List.mem_map.1 hx
  rfl
theorem es_BE : ∀ a : List UInt8, esBytes (BE a) = some a
  | [] => rfl
  | c :: a => by
    have := es_BE a
    rw [BE_eq] at this ⊢
    rw [List.map_cons, esBytes, this]
    simp

section
variable {β : Type} {l : List T} {i : Nat} (hi : i < l.length)
include hi
theorem at1 (F : ByteArray → Option β) : (elemAt (l.map enc) (i : Int) fun z => bif List.length z == 4 then cellAt (List.drop 1 z) 0 fun a => asStr a F else none) = F (mk l[i].s) := by
  rw [elemAt_some (e := enc l[i]) (by rw [List.getElem?_map, List.getElem?_eq_getElem hi]; rfl)]
  rfl
theorem at0 (F : Int → Option β) : (elemAt (l.map enc) (i : Int) fun z => bif List.length z == 4 then cellAt (List.drop 0 z) 0 fun a => Aev.asInt .i64 a F else none) = F l[i].k := by
  rw [elemAt_some (e := enc l[i]) (by rw [List.getElem?_map, List.getElem?_eq_getElem hi]; rfl)]
  rfl
end

theorem ref_L2 {l : List T} {i : Nat} (hi : i < l.length) (hs : (dbl l[i].s).length ≤ 33554432) (γ : Type) (K : Ex → List (List Dat) → Int → Option γ) : ∀ (d k n : Nat) (acc : List UInt8), l[i].s.length = k + d → d < n → acc.length + (dbl (l[i].s.drop k)).length ≤ 134217728 →
    Sp.ref09_Show_L2 n (l.map enc) (i : Int) (BE acc) (k : Int) γ K = K (.exit 2) (BE (acc ++ dbl (l[i].s.drop k))) (l[i].s.length : Int) := by
  intro d
  have hsl := dbl_len l[i].s
  induction d with
  | zero =>
    intro k n acc hk hn hb
    obtain ⟨n, rfl⟩ : ∃ m, n = m + 1 := ⟨n - 1, by omega⟩
    have h0 : l[i].s.drop k = [] := List.drop_eq_nil_of_le (by omega)
    have hd : dbl [] = [] := rfl
    unfold Sp.ref09_Show_L2 Sp.B_ref09_Show_L2
    rw [sized_BE, cond_true, at1 hi, size_mk, decide_eq_false (by simp only [Int.ofNat_eq_natCast]; omega), cond_false, h0, hd, List.append_nil, show (k : Int) = (l[i].s.length : Int) by omega]
  | succ d ih =>
    intro k n acc hk hn hb
    obtain ⟨n, rfl⟩ : ∃ m, n = m + 1 := ⟨n - 1, by omega⟩
    obtain ⟨c, hc, hd⟩ := drop_cons (l := l[i].s) (i := k) (by omega)
    rw [hd] at hb ⊢
    unfold Sp.ref09_Show_L2 Sp.B_ref09_Show_L2
    rw [sized_BE, cond_true, at1 hi, size_mk, decide_eq_true (by simp only [Int.ofNat_eq_natCast]; omega), cond_true, at1 hi, byteAt_some hc]
    rw [show IntKind.wrap .i64 ((k : Int) + 1) = ((k + 1 : Nat) : Int) by rw [wrap_i64 (by omega)]; omega]
    rw [BE_len, decide_eq_true (show (acc.length + 1) * 2 ≤ 70368744177664 by omega)]
    rw [show (true && true && true && true && true) = true from rfl, cond_true, at1 hi, byteAt_some hc, BE_one]
    show (bif decide (ci c = 39) then _ else _) = _
    by_cases h : c = 39
    · subst h
      rw [decide_eq_true (show ci 39 = 39 from rfl), cond_true]
      have e39 : ([[Dat.int .u8 39]] : List (List Dat)) = BE [39] := rfl
      have dd : ((acc ++ [(39 : UInt8)]).length + 1) * 2 ≤ 70368744177664 := by rw [List.length_append, List.length_singleton]; omega
      rw [e39, BE_app, BE_app, sized_BE, BE_len, decide_eq_true dd]
      rw [show (true && true && true && true && true) = true from rfl, cond_true]
      have hdbl : dbl (39 :: l[i].s.drop (k + 1)) = 39 :: 39 :: dbl (l[i].s.drop (k + 1)) := by simp [dbl]
      rw [hdbl] at hb ⊢
      rw [ih (k + 1) n (acc ++ [39] ++ [39]) (by omega) (by omega) (by simp only [List.length_append, List.length_cons, List.length_nil] at hb ⊢; omega)]
      simp
    · have hne : ¬ ci c = 39 := fun e => h (ci_39 e)
      rw [decide_eq_false hne, cond_false, BE_app]
      have hdbl : dbl (c :: l[i].s.drop (k + 1)) = c :: dbl (l[i].s.drop (k + 1)) := by simp [dbl, h]
      rw [hdbl] at hb ⊢
      rw [ih (k + 1) n (acc ++ [c]) (by omega) (by omega) (by simp only [List.length_append, List.length_cons, List.length_nil] at hb ⊢; omega)]
      simp

/-- what stands ahead of token i -/
def pre (l : List T) (i : Nat) : List UInt8 := Lib.join ((l.take i).map sh) [32]

theorem join_snoc : ∀ (xs : List (List UInt8)) (y : List UInt8), Lib.join (xs ++ [y]) [32] = (if xs = [] then y else Lib.join xs [32] ++ 32 :: y)
  | [], y => by simp [Lib.join, List.intercalate]
  | [x], y => by simp [Lib.join, List.intercalate, List.intersperse]
  | x :: x' :: xs, y => by
    have := join_snoc (x' :: xs) y
    rw [if_neg (by simp)] at this ⊢
    unfold Lib.join List.intercalate at this ⊢
    rw [List.cons_append, List.cons_append, List.intersperse_cons_cons, List.flatten_cons, List.flatten_cons, ← List.cons_append, this]
    rw [List.intersperse_cons_cons, List.flatten_cons, List.flatten_cons]
    simp

theorem pre_succ {l : List T} {i : Nat} (hi : i < l.length) : pre l (i + 1) = (if i = 0 then [] else pre l i ++ [32]) ++ sh l[i] := by
  unfold pre
  rw [List.take_succ_eq_append_getElem hi, List.map_append, List.map_cons, List.map_nil, join_snoc]
  by_cases h : i = 0
  · subst h
    simp
  · have : (l.take i).map sh ≠ [] := by
      intro e
      have := congrArg List.length e
      rw [List.length_map, List.length_take, List.length_nil] at this
      omega
    rw [if_neg this, if_neg h]
    simp

theorem ref_L0 (l : List T) (hl : l.length ≤ 16384) (hs : ∀ t ∈ l, t.s.length ≤ 16777216 ∧ (dbl t.s).length ≤ 33554432) (hp : ∀ i, (pre l i).length ≤ 33554432) (γ : Type) (K : Ex → List (List Dat) → Int → Option γ) : ∀ (d i n : Nat), l.length = i + d → d < n →
    Sp.ref09_Show_L0 n (l.map enc) (BE (pre l i)) (i : Int) γ K = K (.exit 0) (BE (pre l l.length)) (l.length : Int) := by
  intro d
  induction d with
  | zero =>
    intro i n hi hn
    obtain ⟨n, rfl⟩ : ∃ m, n = m + 1 := ⟨n - 1, by omega⟩
    have : i = l.length := by omega
    subst this
    unfold Sp.ref09_Show_L0 Sp.B_ref09_Show_L0
    rw [sized_BE, cond_true, List.length_map, decide_eq_false (by simp only [Int.ofNat_eq_natCast]; omega), cond_false]
  | succ d ih =>
    intro i n hi hn
    obtain ⟨n, rfl⟩ : ∃ m, n = m + 1 := ⟨n - 1, by omega⟩
    have hlt : i < l.length := by omega
    have hb := hs l[i] (List.getElem_mem _)
    have hrec := ih (i + 1) n (by omega) (by omega)
    have hpi := hp i
    have hw : IntKind.wrap .i64 ((i : Int) + 1) = ((i + 1 : Nat) : Int) := by rw [wrap_i64 (by omega)]; omega
    have tt5 : (true && true && true && true && true) = true := rfl
    -- what is done with one token behind acc
    have tail : ∀ (acc : List UInt8), acc.length ≤ 33554433 → acc ++ sh l[i] = pre l (i + 1) →
        (elemAt (l.map enc) (i : Int) fun (z5 : List Dat) => bif List.length z5 == 4 then cellAt (List.drop 0 z5) 0 fun (z6 : Dat) => Aev.asInt IntKind.i64 z6 fun (z7 : Int) => bif !decide (z7 = 4) then elemAt (l.map enc) (i : Int) fun (z8 : List Dat) => bif List.length z8 == 4 then cellAt (List.drop 1 z8) 0 fun (z9 : Dat) => asStr z9 fun (z10 : ByteArray) => bif sized (BE acc) 1 && sized (bytesEs z10) 1 && true && decide ((List.length (BE acc) + List.length (bytesEs z10)) * 2 ≤ 70368744177664) && true then Sp.ref09_Show_L0 n (l.map enc) (BE acc ++ bytesEs z10) (IntKind.wrap IntKind.i64 ((i : Int) + 1)) γ K else none else none
          else bif sized (BE acc) 1 && true && true && decide ((List.length (BE acc) + 1) * 2 ≤ 70368744177664) && true then Sp.ref09_Show_L2 fuel (l.map enc) (i : Int) (BE acc ++ [[Dat.int IntKind.u8 39]]) 0 γ fun (z11 : Ex) (z12 : List (List Dat)) (z13 : Int) => bif sized z12 1 then bif Ex.isExit z11 2 then bif sized z12 1 && true && true && decide ((List.length z12 + 1) * 2 ≤ 70368744177664) && true then Sp.ref09_Show_L0 n (l.map enc) (z12 ++ [[Dat.int IntKind.u8 39]]) (IntKind.wrap IntKind.i64 ((i : Int) + 1)) γ K else none else bif Ex.isRet z11 then K Ex.ret z12 (i : Int) else none else none else none else none) = K (.exit 0) (BE (pre l l.length)) (l.length : Int) := by
      intro acc hacc hnext
      rw [hw, at0 hlt]
      have e39 : ([[Dat.int .u8 39]] : List (List Dat)) = BE [39] := rfl
      by_cases hk : l[i].k = 4
      · have d1 : (acc.length + 1) * 2 ≤ 70368744177664 := by omega
        rw [decide_eq_true hk, Bool.not_true, cond_false, sized_BE, BE_len, decide_eq_true d1, tt5, cond_true, e39, BE_app]
        have h2 := ref_L2 hlt hb.2 γ (fun (z11 : Ex) (z12 : List (List Dat)) (z13 : Int) => bif sized z12 1 then bif Ex.isExit z11 2 then bif sized z12 1 && true && true && decide ((List.length z12 + 1) * 2 ≤ 70368744177664) && true then Sp.ref09_Show_L0 n (l.map enc) (z12 ++ BE [39]) ((i + 1 : Nat) : Int) γ K else none else bif Ex.isRet z11 then K Ex.ret z12 (i : Int) else none else none) l[i].s.length 0 fuel (acc ++ [39]) (by omega) (by unfold fuel; omega) (by rw [List.drop_zero, List.length_append, List.length_singleton]; omega)
        rw [List.drop_zero] at h2
        refine Eq.trans h2 ?_
        have d2 : ((acc ++ [(39 : UInt8)] ++ dbl l[i].s).length + 1) * 2 ≤ 70368744177664 := by rw [List.length_append, List.length_append, List.length_singleton]; omega
        rw [sized_BE, BE_len, decide_eq_true d2, tt5]
        have hcat : acc ++ [39] ++ dbl l[i].s ++ [39] = pre l (i + 1) := by
          rw [← hnext]
          show _ = acc ++ shownT l[i].k l[i].s
          rw [shownT, if_pos hk]
          simp
        rw [BE_app, hcat]
        exact hrec
      · rw [decide_eq_false hk, Bool.not_false, cond_true, at1 hlt]
        have d1 : (acc.length + l[i].s.length) * 2 ≤ 70368744177664 := by omega
        show (bif sized (BE acc) 1 && sized (BE l[i].s) 1 && true && decide ((List.length (BE acc) + List.length (BE l[i].s)) * 2 ≤ 70368744177664) && true then Sp.ref09_Show_L0 n (l.map enc) (BE acc ++ BE l[i].s) ((i + 1 : Nat) : Int) γ K else none) = _
        rw [sized_BE, sized_BE, BE_len, BE_len, decide_eq_true d1, tt5, cond_true, BE_app]
        have hcat : acc ++ l[i].s = pre l (i + 1) := by
          rw [← hnext]
          show _ = acc ++ shownT l[i].k l[i].s
          rw [shownT, if_neg hk]
        rw [hcat]
        exact hrec
    unfold Sp.ref09_Show_L0 Sp.B_ref09_Show_L0
    rw [sized_BE, cond_true, List.length_map, decide_eq_true (by simp only [Int.ofNat_eq_natCast]; omega), cond_true]
    by_cases h0 : i = 0
    · rw [decide_eq_false (by omega), cond_false]
      have := tail (pre l i) (by omega) (by rw [pre_succ hlt, if_pos h0]; subst h0; rfl)
      rw [sized_BE] at this
      exact this
    · rw [decide_eq_true (by omega), cond_true]
      have d0 : ((pre l i).length + 1) * 2 ≤ 70368744177664 := by omega
      rw [BE_len, decide_eq_true d0, tt5, cond_true]
      have e32 : ([[Dat.int .u8 32]] : List (List Dat)) = BE [32] := rfl
      rw [e32, BE_app]
      exact tail (pre l i ++ [32]) (by rw [List.length_append, List.length_singleton]; omega) (by rw [pre_succ hlt, if_neg h0])

theorem ref_show_eq (l : List T) (hl : l.length ≤ 16384) (hs : ∀ t ∈ l, t.s.length ≤ 16777216 ∧ (dbl t.s).length ≤ 33554432) (hp : ∀ i, (pre l i).length ≤ 33554432) (γ : Type) (K : ByteArray → Option γ) : Sp.ref09_Show (l.map enc) γ K = K (mk (Lib.join (l.map sh) [32])) := by
  unfold Sp.ref09_Show Sp.B_ref09_Show
  have h := ref_L0 l hl hs hp γ (fun (z3 : Ex) (z4 : List (List Dat)) (z5 : Int) =>
    bif sized z4 1 then
      bif Ex.isExit z3 0 then
        match esBytes z4 with
        | some z7 => K { data := { toList := z7 } }
        | none => none
      else bif Ex.isRet z3 then none else none
    else none) l.length 0 fuel (by omega) (by unfold fuel; omega)
  refine Eq.trans h ?_
  rw [sized_BE, es_BE]
  unfold pre
  rw [List.take_length]
  rfl
end Go.Proofs.YtffhgjoemimmnaaDoor

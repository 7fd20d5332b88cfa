/- LexJoins, in plain Lean. -/
import Derived.Test.YtffhgjoemimmnaaDoorK8
set_option linter.unusedVariables false
set_option linter.unusedSimpArgs false
namespace Go.Proofs.YtffhgjoemimmnaaDoor
open Go Go.Aev Go.RowKit

theorem same_loop (a b : List T) (pl v : Bool) (h : a.length = b.length) (hlen : a.length ≤ 16777216) (hab : ∀ (i : Nat) x y, a[i]? = some x → b[i]? = some y → x.k = y.k ∧ x.s = y.s ∧ x.n = y.n ∧ (pl = true → x.at_ = y.at_)) (γ : Type) (K : Ex → Bool → Int → Option γ) :
    ∀ (d i n : Nat), a.length = i + d → d < n → Sp.ref09_Same_L0 n (a.map enc) (b.map enc) pl v (i : Int) γ K = K (.exit 0) v (a.length : Int) := by
  intro d
  induction d with
  | zero =>
    intro i n hi hn
    obtain ⟨n, rfl⟩ : ∃ m, n = m + 1 := ⟨n - 1, by omega⟩
    unfold Sp.ref09_Same_L0 Sp.B_ref09_Same_L0
    rw [List.length_map, decide_eq_false (by simp only [Int.ofNat_eq_natCast]; omega), cond_false, show (i : Int) = (a.length : Int) by omega]
  | succ d ih =>
    intro i n hi hn
    obtain ⟨n, rfl⟩ : ∃ m, n = m + 1 := ⟨n - 1, by omega⟩
    have ha : a[i]? = some a[i] := List.getElem?_eq_getElem (by omega)
    have hb : b[i]? = some b[i] := List.getElem?_eq_getElem (by omega)
    obtain ⟨e1, e2, e3, e4⟩ := hab i _ _ ha hb
    have hea : (a.map enc)[i]? = some (enc a[i]) := by rw [List.getElem?_map, ha]; rfl
    have heb : (b.map enc)[i]? = some (enc b[i]) := by rw [List.getElem?_map, hb]; rfl
    have hrec := ih (i + 1) n (by omega) (by omega)
    unfold Sp.ref09_Same_L0 Sp.B_ref09_Same_L0
    rw [List.length_map, decide_eq_true (by simp only [Int.ofNat_eq_natCast]; omega), cond_true, elemAt_some heb]
    rw [show IntKind.wrap .i64 ((i : Int) + 1) = ((i + 1 : Nat) : Int) by rw [wrap_i64 (by omega)]; omega]
    cases pl with
    | false =>
      refine Eq.trans (b := elemAt (a.map enc) (i : Int) fun (z16 : List Dat) => bif List.length z16 == 4 then cellAt (List.drop 3 z16) 0 fun (z17 : Dat) => Aev.asInt IntKind.i64 z17 fun (z18 : Int) => elemAt (a.map enc) (i : Int) fun (z19 : List Dat) => bif List.length z19 == 4 then cellAt z19 0 fun (z20 : Dat) => Aev.asInt IntKind.i64 z20 fun (z21 : Int) => cellAt z19 1 fun (z22 : Dat) => asStr z22 fun (z23 : ByteArray) => cellAt z19 2 fun (z24 : Dat) => Aev.asInt IntKind.i64 z24 fun (z25 : Int) => cellAt z19 3 fun (z26 : Dat) => Aev.asInt IntKind.i64 z26 fun (z27 : Int) => bif !(decide (z21 = b[i].k) && (decide (z23 = mk b[i].s) && (decide (z25 = b[i].n) && (decide (z27 = z18) && true)))) then K Ex.ret false (i : Int) else Sp.ref09_Same_L0 n (a.map enc) (b.map enc) false v ((i + 1 : Nat) : Int) γ K else none else none) rfl ?_
      rw [elemAt_some hea]
      refine Eq.trans (b := elemAt (a.map enc) (i : Int) fun (z19 : List Dat) => bif List.length z19 == 4 then cellAt z19 0 fun (z20 : Dat) => Aev.asInt IntKind.i64 z20 fun (z21 : Int) => cellAt z19 1 fun (z22 : Dat) => asStr z22 fun (z23 : ByteArray) => cellAt z19 2 fun (z24 : Dat) => Aev.asInt IntKind.i64 z24 fun (z25 : Int) => cellAt z19 3 fun (z26 : Dat) => Aev.asInt IntKind.i64 z26 fun (z27 : Int) => bif !(decide (z21 = b[i].k) && (decide (z23 = mk b[i].s) && (decide (z25 = b[i].n) && (decide (z27 = (a[i].at_ : Int)) && true)))) then K Ex.ret false (i : Int) else Sp.ref09_Same_L0 n (a.map enc) (b.map enc) false v ((i + 1 : Nat) : Int) γ K else none) rfl ?_
      rw [elemAt_some hea]
      refine Eq.trans (b := bif !(decide (a[i].k = b[i].k) && (decide (mk a[i].s = mk b[i].s) && (decide (a[i].n = b[i].n) && (decide ((a[i].at_ : Int) = (a[i].at_ : Int)) && true)))) then K Ex.ret false (i : Int) else Sp.ref09_Same_L0 n (a.map enc) (b.map enc) false v ((i + 1 : Nat) : Int) γ K) rfl ?_
      rw [decide_eq_true e1, decide_eq_true (show mk a[i].s = mk b[i].s by rw [e2]), decide_eq_true e3, decide_eq_true rfl]
      exact hrec
    | true =>
      refine Eq.trans (b := elemAt (a.map enc) (i : Int) fun (z19 : List Dat) => bif List.length z19 == 4 then cellAt z19 0 fun (z20 : Dat) => Aev.asInt IntKind.i64 z20 fun (z21 : Int) => cellAt z19 1 fun (z22 : Dat) => asStr z22 fun (z23 : ByteArray) => cellAt z19 2 fun (z24 : Dat) => Aev.asInt IntKind.i64 z24 fun (z25 : Int) => cellAt z19 3 fun (z26 : Dat) => Aev.asInt IntKind.i64 z26 fun (z27 : Int) => bif !(decide (z21 = b[i].k) && (decide (z23 = mk b[i].s) && (decide (z25 = b[i].n) && (decide (z27 = (b[i].at_ : Int)) && true)))) then K Ex.ret false (i : Int) else Sp.ref09_Same_L0 n (a.map enc) (b.map enc) true v ((i + 1 : Nat) : Int) γ K else none) rfl ?_
      rw [elemAt_some hea]
      refine Eq.trans (b := bif !(decide (a[i].k = b[i].k) && (decide (mk a[i].s = mk b[i].s) && (decide (a[i].n = b[i].n) && (decide ((a[i].at_ : Int) = (b[i].at_ : Int)) && true)))) then K Ex.ret false (i : Int) else Sp.ref09_Same_L0 n (a.map enc) (b.map enc) true v ((i + 1 : Nat) : Int) γ K) rfl ?_
      rw [decide_eq_true e1, decide_eq_true (show mk a[i].s = mk b[i].s by rw [e2]), decide_eq_true e3, decide_eq_true (show (a[i].at_ : Int) = (b[i].at_ : Int) by rw [e4 rfl])]
      exact hrec

theorem same_eq (a b : List T) (pl : Bool) (h : a.length = b.length) (hlen : a.length ≤ 16777216) (hab : ∀ (i : Nat) x y, a[i]? = some x → b[i]? = some y → x.k = y.k ∧ x.s = y.s ∧ x.n = y.n ∧ (pl = true → x.at_ = y.at_)) (γ : Type) (K : Bool → Option γ) :
    Sp.ref09_Same (a.map enc) (b.map enc) pl γ K = K true := by
  unfold Sp.ref09_Same Sp.B_ref09_Same
  rw [List.length_map, List.length_map, h, decide_eq_true rfl]
  simp only [Bool.not_true, cond_false]
  have := same_loop a b pl false h hlen hab γ (fun (z5 : Ex) (z6 : Bool) (z7 : Int) => bif Ex.isExit z5 0 then K true else bif Ex.isRet z5 then K z6 else none) a.length 0 fuel (by omega) (by unfold fuel; omega)
  rw [show ((0 : Nat) : Int) = 0 from rfl] at this
  rw [this]
  simp [Ex.isExit]

theorem joins_eq (hlives : ∀ (γ : Type) (K : Bool → Option γ), Sp.law09_lives γ K = K true) (s t : List UInt8) (γ : Type) (K : Bool → Option γ) : Sp.law09_LexJoins (mk s) (mk t) γ K = K true := by
  unfold Sp.law09_LexJoins Sp.B_law09_LexJoins
  rw [size_mk, size_mk]
  by_cases h1 : 2000 < s.length
  · rw [decide_eq_true (by simp only [Int.ofNat_eq_natCast]; omega), cond_true, hlives]
  rw [decide_eq_false (by simp only [Int.ofNat_eq_natCast]; omega), cond_false]
  by_cases h2 : 2000 < t.length
  · rw [decide_eq_true (by simp only [Int.ofNat_eq_natCast]; omega), cond_true, hlives]
  rw [decide_eq_false (by simp only [Int.ofNat_eq_natCast]; omega), cond_false, all_eq s (by omega), all_eq t (by omega)]
  have hb : mk s ++ bs [10] ++ mk t = mk (s ++ 10 :: t) := by
    rw [bs_mk, mk_append, mk_append]
    congr 1
    simp
  have hb2 : (mk s ++ bs [10]).size = s.length + 1 := by
    rw [bs_mk, mk_append, size_mk]
    simp
  rw [hb, hb2, decide_eq_true (by omega), decide_eq_true (by omega), cond_true, cond_true, all_eq (s ++ 10 :: t) (by simp; omega), hlives]
  simp only [Bool.not_true, cond_false]
  by_cases e1 : (lexAll s).2.2 = 0
  · rw [decide_eq_true e1]
    simp only [Bool.not_true, cond_false]
    by_cases e2 : (lexAll t).2.2 = 0
    · rw [decide_eq_true e2]
      simp only [Bool.not_true, cond_false]
      obtain ⟨ts, gs⟩ := lexAll_good e1
      obtain ⟨tt, gt_⟩ := lexAll_good e2
      rw [good_lexAll gs, good_lexAll gt_]
      simp only [List.length_map, List.length_append, List.length_singleton, Int.ofNat_eq_natCast]
      have l1 := gs.2
      have l2 := gt_.2
      have w1 : IntKind.wrap .i64 (((ts.length + 1 : Nat) : Int) + ((tt.length + 1 : Nat) : Int)) = ((ts.length + 1 + (tt.length + 1) : Nat) : Int) := by rw [wrap_i64 (by omega)]; omega
      rw [w1]
      by_cases e3 : 4096 < ts.length + 1 + (tt.length + 1)
      · rw [decide_eq_true (by omega), cond_true, hlives]
      rw [decide_eq_false (by omega), cond_false]
      rw [good_lexAll (good_join gs gt_ (by omega))]
      simp only [List.length_map, List.length_append, List.length_singleton, Int.ofNat_eq_natCast, List.length_cons, List.length_nil, Nat.zero_add, decide_true, Bool.not_true, cond_false]
      have w2 : IntKind.wrap .i64 (((ts.length + 1 : Nat) : Int) - 1) = (ts.length : Int) := by rw [wrap_i64 (by omega)]; omega
      have w3 : IntKind.wrap .i64 (IntKind.wrap .i64 ((s.length : Int) + 1) + (t.length : Int)) = ((s.length + (t.length + 1) : Nat) : Int) := by rw [wrap_i64 (n := (s.length : Int) + 1) (by omega), wrap_i64 (by omega)]; omega
      have w4 : IntKind.wrap .i64 ((ts.length : Int) + ((tt.length + 1 : Nat) : Int)) = ((ts.length + tt.length + 1 : Nat) : Int) := by rw [wrap_i64 (by omega)]; omega
      rw [w2, w3, w4, decide_eq_true rfl]
      simp only [Bool.not_true, cond_false, decide_true]
      rw [decide_eq_true (show (0 : Int) ≤ (ts.length : Int) by omega), decide_eq_true (show (ts.length : Int) ≤ ((ts.length + 1 : Nat) : Int) by omega), decide_eq_true (show (ts.length : Int) ≤ ((ts.length + tt.length + 1 : Nat) : Int) by omega)]
      simp only [Bool.and_true, cond_true, Int.toNat_natCast, List.drop_zero, sized_enc, Int.le_refl, decide_true]
      have t1 : ((ts ++ [(⟨6, [], 0, s.length⟩ : T)]).map enc).take ts.length = ts.map enc := by
        rw [← List.map_take, List.take_left]
      have t2 : ((ts ++ tt.map (shift (s.length + 1)) ++ [(⟨6, [], 0, s.length + (t.length + 1)⟩ : T)]).map enc).take ts.length = ts.map enc := by
        rw [← List.map_take, List.append_assoc, List.take_left]
      have t3 : (((ts ++ tt.map (shift (s.length + 1)) ++ [(⟨6, [], 0, s.length + (t.length + 1)⟩ : T)]).map enc).take (ts.length + tt.length + 1)).drop ts.length = (tt.map (shift (s.length + 1)) ++ [(⟨6, [], 0, s.length + (t.length + 1)⟩ : T)]).map enc := by
        rw [List.take_of_length_le (by simp; omega), ← List.map_drop, List.append_assoc, List.drop_left]
      rw [t1, t2, same_eq ts ts true rfl (by omega) (fun i x y hx hy => by rw [hx] at hy; cases hy; exact ⟨rfl, rfl, rfl, fun _ => rfl⟩)]
      simp only [cond_true]
      rw [t3]
      refine same_eq (tt ++ [(⟨6, [], 0, t.length⟩ : T)]) _ false (by simp) (by rw [List.length_append, List.length_singleton]; omega) (fun i x y hx hy => ?_) γ K
      have hm : tt.map (shift (s.length + 1)) ++ [(⟨6, [], 0, s.length + (t.length + 1)⟩ : T)] = (tt ++ [(⟨6, [], 0, t.length⟩ : T)]).map (shift (s.length + 1)) := by
        rw [List.map_append]
        congr 1
        simp only [List.map_cons, List.map_nil, shift]
        rw [show s.length + (t.length + 1) = t.length + (s.length + 1) by omega]
      rw [hm, List.getElem?_map, hx] at hy
      cases hy
      exact ⟨rfl, rfl, rfl, fun h => by cases h⟩
    · rw [decide_eq_false e2, Bool.not_false, cond_true]
      exact hlives γ _
  · rw [decide_eq_false e1, Bool.not_false, cond_true]
    exact hlives γ _
end Go.Proofs.YtffhgjoemimmnaaDoor

/- The program's Show. -/
import Derived.Test.YtffhgjoemimmnaaDoorK10
set_option linter.unusedVariables false
set_option linter.unusedSimpArgs false
namespace Go.Proofs.YtffhgjoemimmnaaDoor
open Go Go.Aev Go.RowKit

abbrev strEs (xs : List (List UInt8)) : List (List Dat) := xs.map fun x => [.str (mk x)]
abbrev sh (t : T) : List UInt8 := shownT t.k t.s

theorem sized_strEs (xs : List (List UInt8)) : sized (strEs xs) 1 = true := by
  unfold sized
  rw [List.all_eq_true]
  intro x hx
  obtain ⟨t, _, rfl⟩ := List.mem_map.1 hx
  rfl

theorem count_le (l : List UInt8) : l.count 39 ≤ l.length := List.count_le_length

theorem repl_eq (s : List UInt8) (hs : s.length ≤ 16777216) (γ : Type) (K : ByteArray → Option γ) : Sp.strings_ReplaceAll (mk s) (bs [39]) (bs [39, 39]) γ K = K (mk (dbl s)) := by
  unfold Sp.strings_ReplaceAll
  have hc : Lib.countB (mk s) (bs [39]) ≤ s.length := by
    unfold Lib.countB
    rw [data_mk, bs_mk, data_mk]
    have : ∀ l : List UInt8, Lib.count l [39] ≤ l.length := by
      intro l
      induction l with
      | nil => decide
      | cons c l ih =>
        by_cases h : c = 39
        · subst h; rw [Lib.count_cons_eq]; simp; omega
        · rw [Lib.count_cons_ne c 39 l h]; simp; omega
    exact this s
  have h1 : (bs [39]).size = 1 := rfl
  have h2 : (bs [39, 39]).size = 2 := rfl
  rw [size_mk, h1, h2, decide_eq_true (show s.length < 4294967281 by omega), decide_eq_true (Nat.le_refl 1), decide_eq_true (show s.length + Lib.countB (mk s) (bs [39]) * 2 ≤ 140737488355328 by omega)]
  rw [data_mk]
  show K ⟨(Lib.replaceAll s [39] [39, 39]).toArray⟩ = _
  rw [replaceAll_dbl]
  rfl

theorem show_L0 (l : List T) (hl : l.length ≤ 16384) (hs : ∀ t ∈ l, t.s.length ≤ 16777216 ∧ (dbl t.s).length ≤ 33554432) (γ : Type) (K : Ex → List (List Dat) → Int → Option γ) : ∀ (d i n : Nat), l.length = i + d → d < n →
    Sp.lex_Show_L0 n (l.map enc) (l.length : Int) (strEs ((l.take i).map sh)) (i : Int) γ K = K (.exit 0) (strEs (l.map sh)) (l.length : Int) := by
  intro d
  induction d with
  | zero =>
    intro i n hi hn
    obtain ⟨n, rfl⟩ : ∃ m, n = m + 1 := ⟨n - 1, by omega⟩
    have : i = l.length := by omega
    subst this
    unfold Sp.lex_Show_L0 Sp.B_lex_Show_L0
    rw [sized_strEs, cond_true, decide_eq_false (by omega), cond_false, List.take_length]
  | succ d ih =>
    intro i n hi hn
    obtain ⟨n, rfl⟩ : ∃ m, n = m + 1 := ⟨n - 1, by omega⟩
    have ha : l[i]? = some l[i] := List.getElem?_eq_getElem (by omega)
    have hea : (l.map enc)[i]? = some (enc l[i]) := by rw [List.getElem?_map, ha]; rfl
    have hrec := ih (i + 1) n (by omega) (by omega)
    have hb := hs l[i] (List.getElem_mem _)
    have hout : strEs ((l.take i).map sh) ++ [[.str (mk (sh l[i]))]] = strEs ((l.take (i + 1)).map sh) := by
      rw [List.take_succ_eq_append_getElem (by omega)]
      unfold strEs
      rw [List.map_append, List.map_append]
      rfl
    have hlen : (strEs ((l.take i).map sh)).length = i := by simp [strEs]; omega
    unfold Sp.lex_Show_L0 Sp.B_lex_Show_L0
    rw [sized_strEs, cond_true, decide_eq_true (by omega), cond_true, elemAt_some hea]
    rw [show IntKind.wrap .i64 ((i : Int) + 1) = ((i + 1 : Nat) : Int) by rw [wrap_i64 (by omega)]; omega]
    rw [hlen, decide_eq_true (show (i + 1) * 17 ≤ 70368744177664 by omega)]
    refine Eq.trans (b := bif decide (l[i].k = 4) then Sp.strings_ReplaceAll (mk l[i].s) (bs [39]) (bs [39, 39]) γ fun (z15 : ByteArray) => bif decide (1 + ByteArray.size z15 ≤ 1152921504606846976) then bif decide (ByteArray.size (bs [39] ++ z15) + 1 ≤ 1152921504606846976) then Sp.lex_Show_L0 n (l.map enc) (l.length : Int) (strEs ((l.take i).map sh) ++ [[Dat.str (bs [39] ++ z15 ++ bs [39])]]) ((i + 1 : Nat) : Int) γ K else none else none else Sp.lex_Show_L0 n (l.map enc) (l.length : Int) (strEs ((l.take i).map sh) ++ [[Dat.str (mk l[i].s)]]) ((i + 1 : Nat) : Int) γ K) rfl ?_
    by_cases hk : l[i].k = 4
    · rw [decide_eq_true hk, cond_true, repl_eq _ hb.1, size_mk, decide_eq_true (by omega), cond_true]
      have hcat : bs [39] ++ mk (dbl l[i].s) ++ bs [39] = mk (sh l[i]) := by
        rw [bs_mk, mk_append, mk_append]
        show _ = mk (shownT l[i].k l[i].s)
        rw [shownT, if_pos hk]
        rfl
      have hsz : (bs [39] ++ mk (dbl l[i].s)).size = (dbl l[i].s).length + 1 := by
        rw [bs_mk, mk_append, size_mk, List.length_append]
        show 1 + (dbl l[i].s).length = _
        omega
      rw [hsz, decide_eq_true (by omega), cond_true, hcat, hout]
      exact hrec
    · rw [decide_eq_false hk, cond_false]
      have : mk l[i].s = mk (sh l[i]) := by
        show _ = mk (shownT l[i].k l[i].s)
        rw [shownT, if_neg hk]
      rw [this, hout]
      exact hrec

theorem strsOf_strEs : ∀ xs : List (List UInt8), strsOf (strEs xs) = some (xs.map mk)
  | [] => rfl
  | x :: xs => by
    show (strsOf (strEs xs)).map (mk x :: ·) = _
    rw [strsOf_strEs xs]; rfl

theorem J_join : ∀ ts : List T, Lib.join (ts.map sh ++ [[]]) [32] = J ts
  | [] => rfl
  | t :: ts => by
    have := J_join ts
    unfold Lib.join List.intercalate at this ⊢
    rw [List.map_cons, List.cons_append]
    cases hx : ts.map sh ++ [[]] with
    | nil => simp at hx
    | cons a b =>
      rw [hx] at this
      rw [List.intersperse_cons_cons, List.flatten_cons, List.flatten_cons, this]
      rfl

theorem show_eq (ts : List T) (k : Nat) (hl : ts.length ≤ 8000) (hs : ∀ t ∈ ts, t.s.length ≤ 16777216 ∧ (dbl t.s).length ≤ 33554432) (hJ : (J ts).length ≤ 16777216) (γ : Type) (K : ByteArray → Option γ) :
    Sp.lex_Show ((ts ++ [(⟨6, [], 0, k⟩ : T)]).map enc) γ K = K (mk (J ts)) := by
  unfold Sp.lex_Show Sp.B_lex_Show
  have h := show_L0 (ts ++ [(⟨6, [], 0, k⟩ : T)]) (by rw [List.length_append, List.length_singleton]; omega) (fun t ht => by
    rcases List.mem_append.1 ht with ht | ht
    · exact hs t ht
    · rw [List.mem_singleton.1 ht]; exact ⟨Nat.zero_le _, Nat.zero_le _⟩) γ (fun (z3 : Ex) (z4 : List (List Dat)) (z5 : Int) => bif sized z4 1 then bif Ex.isExit z3 0 then Sp.strings_Join z4 (bs [32]) γ fun (z6 : ByteArray) => K z6 else bif Ex.isRet z3 then none else none else none) (ts ++ [(⟨6, [], 0, k⟩ : T)]).length 0 fuel (by omega) (by rw [List.length_append, List.length_singleton]; unfold fuel; omega)
  rw [List.length_map]
  refine Eq.trans h ?_
  rw [sized_strEs, cond_true]
  show Sp.strings_Join (strEs ((ts ++ [(⟨6, [], 0, k⟩ : T)]).map sh)) (bs [32]) γ _ = _
  unfold Sp.strings_Join
  rw [strsOf_strEs, Option.bind_some]
  have hm : ((ts ++ [(⟨6, [], 0, k⟩ : T)]).map sh).map mk = (ts.map sh ++ [[]]).map mk := by
    rw [List.map_append]; rfl
  have hj : ((ts.map sh ++ [[]]).map mk).map (fun x : ByteArray => x.data.toList) = ts.map sh ++ [[]] := by
    rw [List.map_map]
    have : ((fun x : ByteArray => x.data.toList) ∘ mk) = id := by funext x; simp
    rw [this, List.map_id]
  rw [hm, hj, bs_mk, data_mk, show ([32].map UInt8.ofNat) = [(32 : UInt8)] from rfl, J_join]
  have d1 : ((ts.map sh ++ [[]]).map mk).length ≤ 140737488355328 := by rw [List.length_map, List.length_append, List.length_map, List.length_singleton]; omega
  have d2 : (J ts).length ≤ 140737488355328 := by omega
  simp only [d1, d2, decide_true, Bool.and_true, cond_true]
  rfl
end Go.Proofs.YtffhgjoemimmnaaDoor

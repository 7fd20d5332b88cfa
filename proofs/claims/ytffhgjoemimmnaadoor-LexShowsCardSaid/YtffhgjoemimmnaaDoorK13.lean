/- LexShows, in plain Lean. -/
import Derived.Test.YtffhgjoemimmnaaDoorK12
set_option linter.unusedVariables false
set_option linter.unusedSimpArgs false
namespace Go.Proofs.YtffhgjoemimmnaaDoor
open Go Go.Aev Go.RowKit

theorem dbl_le : ∀ s : List UInt8, (dbl s).length ≤ 2 * s.length
  | [] => Nat.le_refl _
  | c :: s => by
    have := dbl_le s
    by_cases h : c = 39 <;> simp [dbl, h] <;> omega

theorem join_le (B : Nat) : ∀ xs : List (List UInt8), (∀ x ∈ xs, x.length ≤ B) → (Lib.join xs [32]).length ≤ xs.length * (B + 1)
  | [], _ => by simp [Lib.join, List.intercalate]
  | [x], h => by
    have := h x (by simp)
    simp [Lib.join, List.intercalate]; omega
  | x :: x' :: xs, h => by
    have h1 := h x (by simp)
    have h2 := join_le B (x' :: xs) fun y hy => h y (by simp [hy])
    unfold Lib.join List.intercalate at h2 ⊢
    rw [List.intersperse_cons_cons, List.flatten_cons, List.flatten_cons, List.length_append, List.length_append, List.length_singleton]
    rw [List.length_cons, Nat.add_mul]
    omega

theorem sh_len (t : T) : (sh t).length ≤ 2 * t.s.length + 2 := by
  show (shownT t.k t.s).length ≤ _
  unfold shownT
  have := dbl_le t.s
  split
  · simp; omega
  · omega

theorem shows_eq (hlives : ∀ (γ : Type) (K : Bool → Option γ), Sp.law09_lives γ K = K true) (s : List UInt8) (γ : Type) (K : Bool → Option γ) : Sp.law09_LexShows (mk s) γ K = K true := by
  unfold Sp.law09_LexShows Sp.B_law09_LexShows
  rw [size_mk]
  by_cases h1 : 4000 < s.length
  · rw [decide_eq_true (by simp only [Int.ofNat_eq_natCast]; omega), cond_true]
    exact hlives γ _
  rw [decide_eq_false (by simp only [Int.ofNat_eq_natCast]; omega), cond_false, all_eq s (by omega), hlives, Bool.not_true, cond_false]
  by_cases e1 : (lexAll s).2.2 = 0
  · rw [decide_eq_true e1, Bool.not_true, cond_false]
    obtain ⟨ts, gs⟩ := lexAll_good e1
    rw [good_lexAll gs]
    obtain ⟨⟨p, hp⟩, hlt⟩ := gs
    have hk := skp_le s
    obtain ⟨g1, g2, g3, g4, g5⟩ := relex s.length (s.drop (skp s)) (skp s) 0 p ts (by rw [List.length_drop]; omega) (skp_idem s.length s (Nat.le_refl _)) hp
    rw [List.length_drop] at g2 g3 g4
    obtain ⟨p', ts', k1, k2⟩ := g5 (J ts).length 0 0 (Nat.le_refl _) (by omega)
    have hlen : ts'.length = ts.length := by
      have := congrArg List.length k2
      rw [List.length_map, List.length_map] at this
      exact this
    have gJ : Good (J ts) ts' := ⟨⟨p', by rw [g1, List.drop_zero]; exact k1⟩, by omega⟩
    have hts : ∀ t ∈ ts, t.s.length ≤ 16777216 ∧ (dbl t.s).length ≤ 33554432 := by
      intro t ht
      have h2 := g4 t ht
      have h3 := dbl_le t.s
      exact ⟨by omega, by omega⟩
    show Sp.lex_Show ((ts ++ [(⟨6, [], 0, s.length⟩ : T)]).map enc) γ _ = _
    rw [show_eq ts s.length (by omega) hts (by omega), all_eq (J ts) (by omega), good_lexAll gJ]
    have hmem : ∀ t ∈ ts ++ [(⟨6, [], 0, s.length⟩ : T)], t.s.length ≤ 4000 := by
      intro t ht
      rcases List.mem_append.1 ht with ht | ht
      · have := g4 t ht; omega
      · rw [List.mem_singleton.1 ht]; exact Nat.zero_le _
    have hl : (ts ++ [(⟨6, [], 0, s.length⟩ : T)]).length ≤ 4001 := by rw [List.length_append, List.length_singleton]; omega
    rw [ref_show_eq (ts ++ [(⟨6, [], 0, s.length⟩ : T)]) (by omega) (fun t ht => by
      have h2 := hmem t ht
      have h3 := dbl_le t.s
      exact ⟨by omega, by omega⟩) (fun i => by
      have h2 := join_le 8002 (((ts ++ [(⟨6, [], 0, s.length⟩ : T)]).take i).map sh) (fun x hx => by
        obtain ⟨t, ht, rfl⟩ := List.mem_map.1 hx
        have h3 := hmem t (List.mem_of_mem_take ht)
        have h4 := sh_len t
        omega)
      rw [List.length_map, List.length_take] at h2
      have h3 : min i (ts ++ [(⟨6, [], 0, s.length⟩ : T)]).length * (8002 + 1) ≤ 4001 * 8003 := Nat.mul_le_mul (by omega) (Nat.le_refl _)
      show (Lib.join (((ts ++ [(⟨6, [], 0, s.length⟩ : T)]).take i).map sh) [32]).length ≤ 33554432
      omega)]
    have hm : (ts ++ [(⟨6, [], 0, s.length⟩ : T)]).map sh = ts.map sh ++ [[]] := by
      rw [List.map_append]; rfl
    rw [hm, J_join, decide_eq_true (show mk (J ts) = mk (J ts) from rfl), cond_true]
    show (bif decide ((0 : Int) = 0) then _ else _) = _
    rw [decide_eq_true (show (0 : Int) = 0 from rfl), cond_true]
    refine same_eq (ts ++ [(⟨6, [], 0, s.length⟩ : T)]) (ts' ++ [(⟨6, [], 0, (J ts).length⟩ : T)]) false (by rw [List.length_append, List.length_append, hlen]; rfl) (by omega) (fun i x y hx hy => ?_) γ K
    have hall : (ts ++ [(⟨6, [], 0, s.length⟩ : T)]).map (fun t => (t.k, t.s, t.n)) = (ts' ++ [(⟨6, [], 0, (J ts).length⟩ : T)]).map fun t => (t.k, t.s, t.n) := by
      rw [List.map_append, List.map_append, k2]; rfl
    have h2 := congrArg (fun l => l[i]?) hall
    simp only [List.getElem?_map, hx, hy, Option.map_some, Option.some.injEq, Prod.mk.injEq] at h2
    exact ⟨h2.1, h2.2.1, h2.2.2, fun h => by cases h⟩
  · rw [decide_eq_false e1, Bool.not_false, cond_true]
    exact hlives γ _
end Go.Proofs.YtffhgjoemimmnaaDoor

/- catalog.Columns: a clone, written over; walked by hand. -/
import Derived.Test.YtimdilbcijgadaaGreatDoorKA
import Derived.Lib.SmallJoins
set_option linter.unusedVariables false
set_option linter.unusedSimpArgs false
namespace Go.Proofs.YtimdilbcijgadaaGreatDoor
open Go Go.Aev Go.RowKit

/-- the cells of columns, the first k of which have a table's name -/
def tabs (s : ByteArray) : Nat → List Value → List Value
  | 0, l => l
  | k + 1, l => (tabs s k l).set (k * 3) (.string s)
theorem tabs_len (s : ByteArray) : ∀ k l, (tabs s k l).length = l.length
  | 0, l => rfl
  | k + 1, l => by rw [tabs, List.length_set, tabs_len s k l]
theorem tabs_get (s : ByteArray) (l : List Value) : ∀ (k j : Nat), j < l.length → (tabs s k l)[j]? = if j % 3 = 0 ∧ j / 3 < k then some (.string s) else l[j]?
  | 0, j, hj => by simp [tabs]
  | k + 1, j, hj => by
    rw [tabs, List.getElem?_set, tabs_len, tabs_get s l k j hj]
    by_cases h : k * 3 = j
    · subst h
      rw [if_pos rfl, if_pos hj, if_pos ⟨by omega, by omega⟩]
    · rw [if_neg h]
      by_cases h2 : j % 3 = 0 ∧ j / 3 < k
      · rw [if_pos h2, if_pos ⟨h2.1, by omega⟩]
      · rw [if_neg h2, if_neg (fun h3 => h2 ⟨h3.1, by omega⟩)]

set_option maxRecDepth 100000 in
set_option maxHeartbeats 2000000 in
theorem cols_walk (n0 : ByteArray) (a1 : Option Addr) (l1 c1 : Nat) (a2 : Option Addr) (l2 c2 : Nat) (s : ByteArray) (w : World) (m : Nat) (hm : m ≤ 1000000) (G : List Value → Prop)
    (hclone : Calls Tryz.prog 47 #[.slice a1 l1 c1] (w.alloc (.cells #[.string n0, .slice a1 l1 c1, .slice a2 l2 c2] 29)) fun e w' => ∃ v' news, e = .returned v' ∧ w'.ownsRow (w.heap.size + 1) 57 3 v' m news ∧
      Below (w.heap.size + 1) (w.alloc (.cells #[.string n0, .slice a1 l1 c1, .slice a2 l2 c2] 29)) w' ∧ G news) :
    Calls Tryz.prog 18 #[.agg #[.string n0, .slice a1 l1 c1, .slice a2 l2 c2], .string s] w fun e w' => ∃ v' news, e = .returned v' ∧ w'.ownsRow w.heap.size 57 3 v' m (tabs s m news) ∧ Below w.heap.size w w' ∧ G news := by
  have hb0 : ∀ w', Below (w.heap.size + 1) (w.alloc (.cells #[.string n0, .slice a1 l1 c1, .slice a2 l2 c2] 29)) w' → Below w.heap.size w w' := fun w' h =>
    ((Below.refl w.heap.size w).alloc (Nat.le_refl _) _).trans (h.mono (by omega))
  go_enter Tryz.func18, Tryz.ntmps18
  go_wp2_with (first
    | (go_at_call 47; go_loud (refine hclone.mono ?_; clear hclone; rintro e w1 ⟨v', news, rfl, hown, hbw, hG⟩; rcases Go.Joins.ownsRow_forms hown with ⟨rfl, rfl⟩ | ⟨g, cap, rfl⟩)))
  · refine wp_loop_rounds 1 ?_
    rw [rounds_succ]
    go_wp2
    go_ret
    exact ⟨_, news, rfl, Go.Joins.ownsRow_le hown (by omega), hb0 _ hbw, hG⟩
  · go_loopw [12] (fun i wr => ∃ k : Nat, k ≤ m ∧ i = .int .i64 k ∧ wr.ownsRow (w.heap.size + 1) 57 3 (.slice (some ⟨g, 0, none⟩) m cap) m (tabs s k news) ∧ Below (w.heap.size + 1) (w.alloc (.cells #[.string n0, .slice a1 l1 c1, .slice a2 l2 c2] 29)) wr)
      (fun i _ => m - (intOf i).toNat)
    case atStart => exact ⟨0, Nat.zero_le _, rfl, hown, hbw⟩
    case round =>
      obtain ⟨k, hk, rfl, hownr, hnx⟩ := hrel
      have hst := hownr.stored (k * 3) (.string s)
      have e0 : k < m → ∃ u, wr.cell? ⟨g, k * 3, none⟩ = some u := fun hk => by
        refine ⟨(tabs s k news)[k * 3]'(by rw [hownr.1]; omega), ?_⟩
        rw [hownr.cellAt (k * 3) (by omega)]
        exact List.getElem?_eq_getElem _
      have e1 := hownr.frozenAt (k * 3)
      by_cases hlt : k < m
      · obtain ⟨u, e0⟩ := e0 hlt
        go_wp2
        go_roundw
        case rel =>
          refine ⟨k + 1, by omega, by go_num, hst.1, ?_⟩
          exact hnx.grown hst.2 (by have := hnx.size; simp at this; omega) (fun j hj => by cases hj; exact (hownr.lt g rfl).1)
        case measure => simp [intOf]; omega
      · go_wp2
        have : k = m := by omega
        subst this
        go_ret
        exact ⟨_, news, rfl, Go.Joins.ownsRow_le hownr (by omega), hb0 _ hnx, hG⟩
end Go.Proofs.YtimdilbcijgadaaGreatDoor

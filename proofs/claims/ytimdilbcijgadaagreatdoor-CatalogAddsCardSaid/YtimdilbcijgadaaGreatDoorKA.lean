/- Names that stand once: walked by hand over a map. -/
import Derived.Test.YtimdilbcijgadaaGreatDoorK2
import Derived.Maps.OwnSet
import Derived.WalkKit
import Derived.OwnWalk
import Derived.Laws.OwnMore
import Derived.Laws.CopyOwn
set_option linter.unusedVariables false
set_option linter.unusedSimpArgs false
namespace Go.Proofs.YtimdilbcijgadaaGreatDoor
open Go Go.Aev Go.RowKit Go.Maps Go.WideMaps

def keyAt (ss : List ByteArray) (k : Nat) : Lit := .string (ss.getD k ByteArray.empty).data.toList
def keys (ss : List ByteArray) (k : Nat) : List Lit := (ss.take k).map fun s => .string s.data.toList
def Sn {H : Type} (ss : List ByteArray) (k : Nat) : DataW H := setOf (.agg []) (keys ss k)
theorem keys_succ (ss : List ByteArray) (k : Nat) (hk : k < ss.length) : keys ss (k + 1) = keys ss k ++ [keyAt ss k] := by
  unfold keys keyAt
  rw [List.take_add_one, List.map_append]
  simp [List.getD, List.getElem?_eq_getElem hk]
theorem Sn_succ {H : Type} (ss : List ByteArray) (k : Nat) (hk : k < ss.length) : Sn (H := H) ss (k + 1) = (Sn ss k).put (keyAt ss k) (.agg []) := by
  unfold Sn
  rw [keys_succ ss k hk, setOf_snoc]
theorem Sn_zero {H : Type} (ss : List ByteArray) : Sn (H := H) ss 0 = .map [] := by simp [Sn, keys, setOf]
theorem law9 : Keyed Tryz.prog 9 := string_keyed Tryz.underlying9
theorem key_ok {ss : List ByteArray} (hsz : ∀ s ∈ ss, s.size ≤ maxLen) (k : Nat) : keyOf Tryz.prog 9 (.string (ss.getD k ByteArray.empty)) = some (keyAt ss k) := by
  refine keyOf_string_mk Tryz.underlying9 ?_
  by_cases hk : k < ss.length
  · rw [List.getD, List.getElem?_eq_getElem hk]
    exact hsz _ (List.getElem_mem hk)
  · rw [List.getD, List.getElem?_eq_none (by omega)]
    exact Nat.zero_le _

theorem nameC (x0 x1 : ByteArray) (x2 : Int) (w : World) : Calls Tryz.prog 42 #[.agg #[.string x0, .string x1, .int .i64 x2]] w fun e w' => e = .returned (.string x1) ∧ w' = w.alloc (.cells #[.string x0, .string x1, .int .i64 x2] 57) := by
  go_enter Tryz.func42, Tryz.ntmps42
  go_wp2
  go_ret
  exact ⟨rfl, rfl⟩

set_option maxRecDepth 100000 in
theorem unlikeC_none (a : Option Addr) (cap : Nat) (w : World) : Calls Tryz.prog 41 #[.slice a 0 cap, .func (.func 42) #[] #[]] w fun e w' => e = .returned (.bool true) ∧ Below w.heap.size w w' := by
  have hmm := @run_makeMap Tryz.prog
  go_enter Tryz.func41, Tryz.ntmps41
  go_wp2
  refine wp_loop_rounds 1 ?_
  rw [rounds_succ]
  go_wp2_with (first
    | (at_len; refine wpList_len_own _ rfl _ 88 rfl 9 89 Tryz.underlying88 (unitElem (H := Unit)) w.heap.size 0 (.map []) rfl (World.ownsMap_made _ _ _ _) ?_)
    | go_in)
  go_ret
  exact ⟨rfl, (Below.refl _ _).alloc (Nat.le_refl _) _⟩

set_option maxRecDepth 100000 in
set_option maxHeartbeats 2000000 in
theorem unlikeC_walk (b off len cap : Nat) (nm : List ByteArray) (nf : Nat → ByteArray) (tb : Nat → ByteArray) (ty : Nat → Int) (w : World) (hnf : ∀ i, nf i = nm.getD i ByteArray.empty) (hz : nm.length = len) (hm : len ≤ 1000000) (hb : b < w.heap.size)
    (h0 : ∀ i, i < len → w.cell? ⟨b, off + i * 3, none⟩ = some (.string (tb i))) (h1 : ∀ i, i < len → w.cell? ⟨b, off + i * 3 + 1, none⟩ = some (.string (nf i))) (h2 : ∀ i, i < len → w.cell? ⟨b, off + i * 3 + 2, none⟩ = some (.int .i64 (ty i))) (hsz : ∀ s ∈ nm, s.size ≤ maxLen) :
    Calls Tryz.prog 41 #[.slice (some ⟨b, off, none⟩) len cap, .func (.func 42) #[] #[]] w fun e w' => e = .returned (.bool (decide (((Maps.size (Sn (H := Unit) nm len) : Nat) : Int) = (len : Int)))) ∧ Below w.heap.size w w' := by
  have hmm := @run_makeMap Tryz.prog
  go_enter Tryz.func41, Tryz.ntmps41
  go_wp2
  go_loopw [11] (fun i wr => ∃ k : Nat, k ≤ len ∧ i = .int .i64 k ∧ wr.ownsMap Tryz.prog 9 (unitElem (H := Unit)) w.heap.size k (Sn (H := Unit) nm k) ∧ Below w.heap.size w wr)
    (fun i _ => len - (intOf i).toNat)
  case atStart => exact ⟨0, Nat.zero_le _, rfl, by rw [Sn_zero]; exact World.ownsMap_made _ _ _ _, (Below.refl _ _).alloc (Nat.le_refl _) _⟩
  case round =>
    obtain ⟨k, hk, rfl, hown, hnx⟩ := hrel
    have hbr : b < wr.heap.size := Nat.lt_of_lt_of_le hb hnx.size
    have e0 : k < len → wr.cell? ⟨b, off + k * 3, none⟩ = some (.string (tb k)) := fun hk => (hnx.cell (by exact hb)).trans (h0 k hk)
    have e1 : k < len → wr.cell? ⟨b, off + k * 3 + 1, none⟩ = some (.string (nf k)) := fun hk => (hnx.cell (by exact hb)).trans (h1 k hk)
    have e2 : k < len → wr.cell? ⟨b, off + k * 3 + 2, none⟩ = some (.int .i64 (ty k)) := fun hk => (hnx.cell (by exact hb)).trans (h2 k hk)
    have hkey : keyOf Tryz.prog 9 (.string (nf k)) = some (keyAt nm k) := by rw [hnf]; exact key_ok hsz k
    clear h0 h1 h2 hnf
    go_wp2_with (first
      | (go_at_call 42; refine (nameC _ _ _ _).mono ?_; rintro e w1 ⟨rfl, rfl⟩)
      | (at_mapUpdate; refine wpList_mapUpdate_own _ rfl _ _ _ 88 rfl 9 89 law9 Tryz.underlying88 (unitElem (H := Unit)) w.heap.size k _ rfl ((hown.alloc _).alloc _) (by unfold maxLen; omega) _ _ _ rfl rfl hkey _ [] unitElem_mk ?_; intro w1 hown1 hgrow1)
      | (at_len; refine wpList_len_own _ rfl _ 88 rfl 9 89 Tryz.underlying88 _ w.heap.size k _ rfl hown ?_)
      | go_in)
    · have hlt : k < len := by assumption
      go_roundw
      case rel => exact ⟨k + 1, by omega, by go_num, (Sn_succ nm k (by omega)).symm ▸ hown1, ((hnx.alloc hnx.size _).alloc (Nat.le_trans hnx.size (by simp)) _).grown hgrow1 (by have := hnx.size; simp; omega) (fun j hj => by cases hj; exact Nat.le_refl _)⟩
      case measure => simp [intOf]; omega
    · have : k = len := by omega
      subst this
      go_ret
      exact ⟨rfl, hnx⟩

theorem nameT (x0 : ByteArray) (a1 : Option Addr) (n1 c1 : Nat) (a2 : Option Addr) (n2 c2 : Nat) (w : World) : Calls Tryz.prog 35 #[.agg #[.string x0, .slice a1 n1 c1, .slice a2 n2 c2]] w fun e w' => e = .returned (.string x0) ∧ w' = w.alloc (.cells #[.string x0, .slice a1 n1 c1, .slice a2 n2 c2] 29) := by
  go_enter Tryz.func35, Tryz.ntmps35
  go_wp2
  go_ret
  exact ⟨rfl, rfl⟩

set_option maxRecDepth 100000 in
theorem unlikeT_none (a : Option Addr) (cap : Nat) (w : World) : Calls Tryz.prog 34 #[.slice a 0 cap, .func (.func 35) #[] #[]] w fun e w' => e = .returned (.bool true) ∧ Below w.heap.size w w' := by
  have hmm := @run_makeMap Tryz.prog
  go_enter Tryz.func34, Tryz.ntmps34
  go_wp2
  refine wp_loop_rounds 1 ?_
  rw [rounds_succ]
  go_wp2_with (first
    | (at_len; refine wpList_len_own _ rfl _ 88 rfl 9 89 Tryz.underlying88 (unitElem (H := Unit)) w.heap.size 0 (.map []) rfl (World.ownsMap_made _ _ _ _) ?_)
    | go_in)
  go_ret
  exact ⟨rfl, (Below.refl _ _).alloc (Nat.le_refl _) _⟩

set_option maxRecDepth 100000 in
set_option maxHeartbeats 2000000 in
theorem unlikeT_walk (b off len cap : Nat) (nm : List ByteArray) (nf : Nat → ByteArray) (s1 : Nat → Option Addr × Nat × Nat) (s2 : Nat → Option Addr × Nat × Nat) (w : World) (hnf : ∀ i, nf i = nm.getD i ByteArray.empty) (hz : nm.length = len) (hm : len ≤ 1000000) (hb : b < w.heap.size)
    (h0 : ∀ i, i < len → w.cell? ⟨b, off + i * 3, none⟩ = some (.string (nf i))) (h1 : ∀ i, i < len → w.cell? ⟨b, off + i * 3 + 1, none⟩ = some (.slice (s1 i).1 (s1 i).2.1 (s1 i).2.2)) (h2 : ∀ i, i < len → w.cell? ⟨b, off + i * 3 + 2, none⟩ = some (.slice (s2 i).1 (s2 i).2.1 (s2 i).2.2)) (hsz : ∀ s ∈ nm, s.size ≤ maxLen) :
    Calls Tryz.prog 34 #[.slice (some ⟨b, off, none⟩) len cap, .func (.func 35) #[] #[]] w fun e w' => e = .returned (.bool (decide (((Maps.size (Sn (H := Unit) nm len) : Nat) : Int) = (len : Int)))) ∧ Below w.heap.size w w' := by
  have hmm := @run_makeMap Tryz.prog
  go_enter Tryz.func34, Tryz.ntmps34
  go_wp2
  go_loopw [11] (fun i wr => ∃ k : Nat, k ≤ len ∧ i = .int .i64 k ∧ wr.ownsMap Tryz.prog 9 (unitElem (H := Unit)) w.heap.size k (Sn (H := Unit) nm k) ∧ Below w.heap.size w wr)
    (fun i _ => len - (intOf i).toNat)
  case atStart => exact ⟨0, Nat.zero_le _, rfl, by rw [Sn_zero]; exact World.ownsMap_made _ _ _ _, (Below.refl _ _).alloc (Nat.le_refl _) _⟩
  case round =>
    obtain ⟨k, hk, rfl, hown, hnx⟩ := hrel
    have hbr : b < wr.heap.size := Nat.lt_of_lt_of_le hb hnx.size
    have e0 : k < len → wr.cell? ⟨b, off + k * 3, none⟩ = some (.string (nf k)) := fun hk => (hnx.cell (by exact hb)).trans (h0 k hk)
    have e1 : k < len → wr.cell? ⟨b, off + k * 3 + 1, none⟩ = some (.slice (s1 k).1 (s1 k).2.1 (s1 k).2.2) := fun hk => (hnx.cell (by exact hb)).trans (h1 k hk)
    have e2 : k < len → wr.cell? ⟨b, off + k * 3 + 2, none⟩ = some (.slice (s2 k).1 (s2 k).2.1 (s2 k).2.2) := fun hk => (hnx.cell (by exact hb)).trans (h2 k hk)
    have hkey : keyOf Tryz.prog 9 (.string (nf k)) = some (keyAt nm k) := by rw [hnf]; exact key_ok hsz k
    clear h0 h1 h2 hnf
    go_wp2_with (first
      | (go_at_call 35; refine (nameT _ _ _ _ _ _ _ _).mono ?_; rintro e w1 ⟨rfl, rfl⟩)
      | (at_mapUpdate; refine wpList_mapUpdate_own _ rfl _ _ _ 88 rfl 9 89 law9 Tryz.underlying88 (unitElem (H := Unit)) w.heap.size k _ rfl ((hown.alloc _).alloc _) (by unfold maxLen; omega) _ _ _ rfl rfl hkey _ [] unitElem_mk ?_; intro w1 hown1 hgrow1)
      | (at_len; refine wpList_len_own _ rfl _ 88 rfl 9 89 Tryz.underlying88 _ w.heap.size k _ rfl hown ?_)
      | go_in)
    · have hlt : k < len := by assumption
      go_roundw
      case rel => exact ⟨k + 1, by omega, by go_num, (Sn_succ nm k (by omega)).symm ▸ hown1, ((hnx.alloc hnx.size _).alloc (Nat.le_trans hnx.size (by simp)) _).grown hgrow1 (by have := hnx.size; simp; omega) (fun j hj => by cases hj; exact Nat.le_refl _)⟩
      case measure => simp [intOf]; omega
    · have : k = len := by omega
      subst this
      go_ret
      exact ⟨rfl, hnx⟩
end Go.Proofs.YtimdilbcijgadaaGreatDoor

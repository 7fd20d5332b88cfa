/- types.number: an error's number. -/
import Derived.Test.YtppilomaljgkoaaGreatDoorKA
set_option linter.unusedVariables false
set_option linter.unusedSimpArgs false
namespace Go.Proofs.YtppilomaljgkoaaGreatDoor
open Go.RowKit Go.Extern.Stop Go.Stop Go.Extern
theorem number_nil (w : World) : Calls Tryz.prog 36 #[.nilIface] w fun e w' => e = .returned (.int .i64 0) ∧ w' = w.alloc (.cells #[.pointer none] 79) := by
  go_enter Tryz.func36, Tryz.ntmps36
  go_wp2
  go_ret
  exact ⟨rfl, rfl⟩
set_option maxRecDepth 100000 in
set_option maxHeartbeats 4000000 in
theorem number_hit (n : Int) (e : Addr) (w : World) (hs : e.spot = none) (hg : w.cell? ⟨0, 0, none⟩ = some (.iface 126 (.agg #[.pointer (some ⟨4, 64, none⟩)]))) (he : w.cell? e = some (.int .i64 n)) :
    Calls Tryz.prog 36 #[.iface 79 (.pointer (some e))] w fun ev w' => ev = .returned (.int .i64 n) ∧ w' = ((((w.alloc (.cells #[.pointer (some e)] 79)).alloc (.cells #[.pointer (some ⟨w.heap.size, 0, none⟩)] 84)).alloc (.cells #[.pointer (some ⟨4, 84, none⟩), .pointer (some ⟨w.heap.size + 1, 0, none⟩), .int .u64 150] 95)).alloc (.cells #[.pointer (some ⟨4, 84, none⟩), .pointer (some ⟨w.heap.size + 1, 0, none⟩), .int .u64 150] 95)).alloc (.cells #[.pointer (some e)] 79) := by
  have hlt : 0 < w.heap.size := by
    rcases Nat.eq_zero_or_pos w.heap.size with h0 | h
    · simp [World.cell?, h0] at hg
    · exact h
  have hel : e.block < w.heap.size := by
    rcases Nat.lt_or_ge e.block w.heap.size with h | h
    · exact h
    · simp [World.cell?, Array.getElem?_eq_none h] at he
  have hgA : (w.alloc (.cells #[.pointer none] 79)).cell? ⟨0, 0, none⟩ = some (.iface 126 (.agg #[.pointer (some ⟨4, 64, none⟩)])) := by
    rw [World.cell?_alloc_lt _ _ ⟨0, 0, none⟩ hlt]; exact hg
  have htA : (w.alloc (.cells #[.pointer none] 79)).cell? ⟨w.heap.size, 0, none⟩ = some (.pointer none) := by simp
  have hfA : (w.alloc (.cells #[.pointer none] 79)).frozen? ⟨w.heap.size, 0, none⟩ = false := by simp
  have heW : (((((w.alloc (.cells #[.pointer (some e)] 79)).alloc (.cells #[.pointer (some ⟨w.heap.size, 0, none⟩)] 84)).alloc (.cells #[.pointer (some ⟨4, 84, none⟩), .pointer (some ⟨w.heap.size + 1, 0, none⟩), .int .u64 150] 95)).alloc (.cells #[.pointer (some ⟨4, 84, none⟩), .pointer (some ⟨w.heap.size + 1, 0, none⟩), .int .u64 150] 95)).alloc (.cells #[.pointer (some e)] 79)).cell? e = some (.int .i64 n) := by
    rw [World.cell?_alloc_lt _ _ e (by simp; omega), World.cell?_alloc_lt _ _ e (by simp; omega), World.cell?_alloc_lt _ _ e (by simp; omega), World.cell?_alloc_lt _ _ e (by simp; omega), World.cell?_alloc_lt _ _ e hel]
    exact he
  go_enter Tryz.func36, Tryz.ntmps36
  go_wp2_with (first | (go_at_call 49; refine (as_hit _ _ (.pointer none) _ hgA htA hfA).mono ?_; rintro e w' ⟨rfl, rfl⟩))
  go_ret
  exact ⟨rfl, rfl⟩
end Go.Proofs.YtppilomaljgkoaaGreatDoor

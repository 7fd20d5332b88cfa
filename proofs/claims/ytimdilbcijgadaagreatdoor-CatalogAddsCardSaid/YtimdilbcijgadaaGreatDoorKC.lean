/- page.Add: a page with a row behind all; walked by hand. -/
import Derived.Test.YtimdilbcijgadaaGreatDoorKB
set_option linter.unusedVariables false
set_option linter.unusedSimpArgs false
namespace Go.Proofs.YtimdilbcijgadaaGreatDoor
open Go Go.Aev Go.RowKit

/-- what a page's reading gives -/
def ScanAt (pv : Value) (w : World) (L : Nat) (at_ e : Int) : Prop :=
  Calls Tryz.prog 100 #[pv] w fun r w1 => ∃ la lc, r = .returned (.tuple #[.slice la L lc, .int .i64 at_, .int .i64 e]) ∧ Below w.heap.size w w1
/-- what a row's bytes are -/
def FitsAt (rv : Value) (w : World) (bs : List Value) (e : Int) : Prop :=
  ∀ w1, Below w.heap.size w w1 → Calls Tryz.prog 101 #[rv] w1 fun r w2 => ∃ ba bc, r = .returned (.tuple #[.slice ba bs.length bc, .int .i64 e]) ∧ Below w1.heap.size w1 w2 ∧
    (0 < bs.length → ∃ ad, ba = some ad ∧ ad.block < w2.heap.size ∧ ∀ j v, bs[j]? = some v → w2.cell? (ad.add j) = some v)
def CloneAt (pv : Value) (w : World) (ns : List Value) : Prop :=
  ∀ w1, Below w.heap.size w w1 → Calls Tryz.prog 102 #[pv] w1 fun r w2 => ∃ v', r = .returned v' ∧ w2.ownsRow w1.heap.size 5 1 v' ns.length ns ∧ Below w1.heap.size w1 w2

set_option maxRecDepth 100000 in
theorem add_bad (pa : Option Addr) (pn pc : Nat) (ra : Option Addr) (rn rc : Nat) (w : World) (L : Nat) (at_ e : Int) (he : e ≠ 0) (h1 : ScanAt (.slice pa pn pc) w L at_ e) :
    Calls Tryz.prog 85 #[.slice pa pn pc, .slice ra rn rc] w fun r w' => r = .returned (.tuple #[.slice none 0 0, .int .i64 e]) ∧ Below w.heap.size w w' := by
  unfold ScanAt at h1
  go_enter Tryz.func85, Tryz.ntmps85
  go_wp2_with (first
    | (go_at_call 100; refine h1.mono ?_; clear h1; rintro r w1 ⟨la, lc, rfl, hb⟩))
  go_ret2
  exact ⟨rfl, hb⟩

set_option maxRecDepth 100000 in
theorem add_odd (pa : Option Addr) (pn pc : Nat) (ra : Option Addr) (rn rc : Nat) (w : World) (L : Nat) (at_ e : Int) (he : e ≠ 0) (bs : List Value) (h1 : ScanAt (.slice pa pn pc) w L at_ 0) (h2 : FitsAt (.slice ra rn rc) w bs e) :
    Calls Tryz.prog 85 #[.slice pa pn pc, .slice ra rn rc] w fun r w' => r = .returned (.tuple #[.slice none 0 0, .int .i64 e]) ∧ Below w.heap.size w w' := by
  unfold ScanAt at h1
  unfold FitsAt at h2
  go_enter Tryz.func85, Tryz.ntmps85
  go_wp2_with (first
    | (go_at_call 100; refine h1.mono ?_; clear h1; rintro r w1 ⟨la, lc, rfl, hb⟩)
    | (go_at_call 101; refine (h2 _ hb).mono ?_; clear h2; rintro r w2 ⟨ba, bc, rfl, hb2, hbs⟩))
  go_ret2
  exact ⟨rfl, hb.trans (hb2.mono hb.size)⟩

set_option maxRecDepth 100000 in
theorem add_full (pa : Option Addr) (pc : Nat) (ra : Option Addr) (rn rc : Nat) (w : World) (L : Nat) (at_ : Nat) (hL : L ≤ 1000) (hat : at_ ≤ 1000) (bs : List Value) (hbl : bs.length ≤ 1000) (hfull : 255 ≤ L ∨ 256 < at_ + bs.length + 2 * (L + 1))
    (h1 : ScanAt (.slice pa 256 pc) w L at_ 0) (h2 : FitsAt (.slice ra rn rc) w bs 0) :
    Calls Tryz.prog 85 #[.slice pa 256 pc, .slice ra rn rc] w fun r w' => r = .returned (.tuple #[.slice none 0 0, .int .i64 2]) ∧ Below w.heap.size w w' := by
  unfold ScanAt at h1
  unfold FitsAt at h2
  go_enter Tryz.func85, Tryz.ntmps85
  go_wp2_with (first
    | (go_at_call 100; refine h1.mono ?_; clear h1; rintro r w1 ⟨la, lc, rfl, hb⟩)
    | (go_at_call 101; refine (h2 _ hb).mono ?_; clear h2; rintro r w2 ⟨ba, bc, rfl, hb2, hbs⟩))
  all_goals go_ret2
  all_goals exact ⟨rfl, hb.trans (hb2.mono hb.size)⟩

theorem row_heap {w : World} {base : Nat} {e : TypeId} {g n cap : Nat} {xs : List Value} (h : w.ownsRow base e 1 (.slice (some ⟨g, 0, none⟩) n cap) n xs) :
    ∃ cur : List Value, w.heap[g]? = some (.cells cur.toArray e (0, 0)) ∧ cur.length = cap ∧ n ≤ cap ∧ cap ≤ maxLen ∧ base ≤ g ∧ cur.take n = xs := by
  rcases h.2 with ⟨h', _⟩ | ⟨g', cap', cur, h', hb, hg, hnc, hcm, hcs, htake⟩
  · simp at h'
  · simp only [Value.slice.injEq, Option.some.injEq, Addr.mk.injEq, and_true, true_and] at h'
    obtain ⟨rfl, rfl⟩ := h'
    exact ⟨cur.toList, by simpa using hg, by simpa using hcs, hnc, hcm, hb, by simpa using htake⟩
theorem row_owns {w : World} {base : Nat} {e : TypeId} {g n cap : Nat} {cur : List Value} (h : w.heap[g]? = some (.cells cur.toArray e (0, 0))) (hl : cur.length = cap) (hn : n ≤ cap) (hm : cap ≤ maxLen) (hb : base ≤ g) :
    w.ownsRow base e 1 (.slice (some ⟨g, 0, none⟩) n cap) n (cur.take n) :=
  ⟨by simp; omega, .inr ⟨g, cap, cur.toArray, rfl, hb, h, hn, hm, by simpa using hl, by simp⟩⟩
theorem row_cell {w : World} {e : TypeId} {g : Nat} {cur : List Value} (h : w.heap[g]? = some (.cells cur.toArray e (0, 0))) (j : Nat) : w.cell? ⟨g, j, none⟩ = cur[j]? := by
  rw [cell_of_row w g j cur.toArray e (0, 0) h]; simp
theorem row_free {w : World} {e : TypeId} {g : Nat} {cur : List Value} (h : w.heap[g]? = some (.cells cur.toArray e (0, 0))) (j : Nat) : w.frozen? ⟨g, j, none⟩ = false := by
  simp [World.frozen?, h]
theorem row_set {w : World} {e : TypeId} {g : Nat} {cur : List Value} (h : w.heap[g]? = some (.cells cur.toArray e (0, 0))) (j : Nat) (u : Value) : (w.setCell ⟨g, j, none⟩ u).heap[g]? = some (.cells (cur.set j u).toArray e (0, 0)) := by
  rw [heap_setCell_same w g j cur.toArray e u h]; simp
theorem below_set {B g : Nat} {w0 w : World} (h : Below B w0 w) (hg : B ≤ g) (j : Nat) (u : Value) : Below B w0 (w.setCell ⟨g, j, none⟩ u) :=
  h.trans ⟨rfl, rfl, rfl, by simp, fun k hk => heap_setCell_other w ⟨g, j, none⟩ k u (by simp; omega)⟩

theorem clone_facts {w w1 w2 w3 : World} {v' : Value} {ns bs : List Value} {ba : Option Addr} {c0 : Int} (bc at_ : Nat) (hat : at_ + bs.length ≤ 256) (hone : ∀ v ∈ bs, v.oneCell' = true) (hb : Below w.heap.size w w1) (hb2 : Below w1.heap.size w1 w2) (hb3 : Below w2.heap.size w2 w3) (hown : w3.ownsRow w2.heap.size 5 1 v' 256 ns) (hc0 : ns[0]? = some (.int .u8 c0))
    (hbs : 0 < bs.length → ∃ ad, ba = some ad ∧ ad.block < w2.heap.size ∧ ∀ j v, bs[j]? = some v → w2.cell? (ad.add j) = some v) :
    ∃ (g cap : Nat) (cur : List Value) (w5 : World), v' = .slice (some ⟨g, 0, none⟩) 256 cap ∧ w3.cell? ⟨g, 0, none⟩ = some (.int .u8 c0) ∧ w3.frozen? ⟨g, 0, none⟩ = false ∧ 256 ≤ cap ∧ cap ≤ maxLen ∧ cur.length = cap ∧ cur.take 256 = ns ∧ w.heap.size ≤ g ∧
      (Builtin.copy_ #[49, 49] 3 #[.slice (some ⟨g, at_, none⟩) (256 - at_) (cap - at_), .slice ba bs.length bc]).run Tryz.prog (w3.setCell ⟨g, 0, none⟩ (.int .u8 ((c0 + 1) % 256))) = .ok (goInt bs.length) w5 ∧
      w5.heap[g]? = some (.cells (splice (cur.set 0 (.int .u8 ((c0 + 1) % 256))) at_ bs).toArray 5 (0, 0)) ∧ Below w.heap.size w w5 := by
  obtain ⟨g, cap, rfl⟩ := Go.Joins.ownsRow_form hown (by omega)
  have e0 := (hown.cellAt 0 (by omega)).trans hc0
  have f0 := hown.frozenAt 0
  obtain ⟨cur, hg3, hcl, hcap, hcm, hbg, htake⟩ := row_heap hown
  have hwg : w.heap.size ≤ g := Nat.le_trans (Nat.le_trans hb.size hb2.size) hbg
  have hb3' := (hb.trans (hb2.mono hb.size)).trans (hb3.mono (Nat.le_trans hb.size hb2.size))
  have hg4 := row_set hg3 0 (.int .u8 ((c0 + 1) % 256))
  have hb4 := below_set hb3' hwg 0 (.int .u8 ((c0 + 1) % 256))
  have hmin : Nat.min bs.length (256 - at_) = bs.length := Nat.min_eq_left (by omega)
  by_cases h0 : bs.length = 0
  · obtain rfl : bs = [] := List.eq_nil_of_length_eq_zero h0
    exact ⟨g, cap, cur, _, rfl, e0, f0, hcap, hcm, hcl, htake, hwg, run_copy_none _ 49 49 3 5 _ ba _ _ _ bc Tryz.underlying49 (by kernel_rfl) hmin, by simpa [splice] using hg4, hb4⟩
  · obtain ⟨ad, rfl, hlt, hcells⟩ := hbs (by omega)
    have hsrc : ∀ j v, bs[j]? = some v → (w3.setCell ⟨g, 0, none⟩ (.int .u8 ((c0 + 1) % 256))).cell? (ad.add j) = some v := fun j v hj => by
      have hb5 : (Addr.add ad j).block < w2.heap.size := by rw [add_block]; exact hlt
      have := (hb3.cell hb5).trans (hcells j v hj)
      rw [← this]
      exact World.cell?_of_block (heap_setCell_other w3 ⟨g, 0, none⟩ _ _ (by rw [add_block]; simp; omega))
    refine ⟨g, cap, cur, _, rfl, e0, f0, hcap, hcm, hcl, htake, hwg, run_copy_row (P := Tryz.prog) _ 49 49 3 5 g at_ _ _ ad _ bc _ 5 bs Tryz.underlying49 (by kernel_rfl) hg4 hmin.symm hsrc (by simp; omega) hone, ?_, below_setRow hb4 hwg _⟩
    exact (by simpa [splice] using setRow_heap (w3.setCell ⟨g, 0, none⟩ (.int .u8 ((c0 + 1) % 256))) g _ _ 5 _ hg4)

theorem slot_facts {w5 : World} {g cap : Nat} {cur bs : List Value} {c1 : Value} (L at_ : Nat) (hcl : cur.length = cap) (hcap : 256 ≤ cap) (hfit : at_ + bs.length + 2 * (L + 1) ≤ 256) (hg5 : w5.heap[g]? = some (.cells (splice (cur.set 0 c1) at_ bs).toArray 5 (0, 0))) :
    (∃ x1, w5.cell? ⟨g, 256 - 2 * (L + 1), none⟩ = some x1) ∧ w5.frozen? ⟨g, 256 - 2 * (L + 1), none⟩ = false ∧
      (∃ x2, (w5.setCell ⟨g, 256 - 2 * (L + 1), none⟩ (.int .u8 ((at_ : Int) / 256))).cell? ⟨g, 256 - 2 * (L + 1) + 1, none⟩ = some x2) ∧ (w5.setCell ⟨g, 256 - 2 * (L + 1), none⟩ (.int .u8 ((at_ : Int) / 256))).frozen? ⟨g, 256 - 2 * (L + 1) + 1, none⟩ = false := by
  have hlen : (splice (cur.set 0 c1) at_ bs).length = cap := by rw [length_splice _ _ _ (by simp; omega)]; simpa using hcl
  have hg6 := row_set hg5 (256 - 2 * (L + 1)) (.int .u8 ((at_ : Int) / 256))
  refine ⟨⟨_, (row_cell hg5 _).trans (List.getElem?_eq_getElem (by omega))⟩, row_free hg5 _, ⟨_, (row_cell hg6 _).trans (List.getElem?_eq_getElem (by simp; omega))⟩, row_free hg6 _⟩

set_option maxRecDepth 100000 in
set_option maxHeartbeats 2000000 in
theorem add_good (pa : Option Addr) (pc : Nat) (ra : Option Addr) (rn rc : Nat) (w : World) (L : Nat) (at_ : Nat) (bs : List Value) (hfit : at_ + bs.length + 2 * (L + 1) ≤ 256) (ns : List Value) (hns : ns.length = 256) (c0 : Int) (hc0 : ns[0]? = some (.int .u8 c0))
    (h1 : ScanAt (.slice pa 256 pc) w L at_ 0) (h2 : FitsAt (.slice ra rn rc) w bs 0) (h3 : CloneAt (.slice pa 256 pc) w ns) (hone : ∀ v ∈ bs, v.oneCell' = true) :
    Calls Tryz.prog 85 #[.slice pa 256 pc, .slice ra rn rc] w fun r w' => ∃ v', r = .returned (.tuple #[v', .int .i64 0]) ∧ w'.ownsRow w.heap.size 5 1 v' 256
      (((splice (ns.set 0 (.int .u8 ((c0 + 1) % 256))) at_ bs).set (256 - 2 * (L + 1)) (.int .u8 ((at_ : Int) / 256))).set (256 - 2 * (L + 1) + 1) (.int .u8 at_)) ∧ Below w.heap.size w w' := by
  unfold ScanAt at h1
  unfold FitsAt at h2
  unfold CloneAt at h3
  rw [hns] at h3
  go_enter Tryz.func85, Tryz.ntmps85
  go_wp2_with (first
    | (go_at_call 100; refine h1.mono ?_; clear h1; rintro r w1 ⟨la, lc, rfl, hb⟩)
    | (go_at_call 101; refine (h2 _ hb).mono ?_; clear h2; rintro r w2 ⟨ba, bc, rfl, hb2, hbs⟩)
    | (go_at_call 102; (refine (h3 _ (hb.trans (hb2.mono hb.size))).mono ?_; clear h3; rintro r w3 ⟨v', rfl, hown, hb3⟩; obtain ⟨g, cap, cur, w5, rfl, e0, f0, hcap, hcm, hcl, htake, hwg, hrun, hg5, hb5⟩ := clone_facts bc at_ (by omega) hone hb hb2 hb3 hown hc0 hbs; clear hown hbs hb3; obtain ⟨⟨x1, q1⟩, q2, ⟨x2, q3⟩, q4⟩ := slot_facts L at_ hcl hcap (by omega) hg5)))
  go_ret2
  have hg7 := row_set (row_set hg5 (256 - 2 * (L + 1)) (.int .u8 ((at_ : Int) / 256))) (256 - 2 * (L + 1) + 1) (.int .u8 at_)
  have hb7 := below_set (below_set hb5 hwg (256 - 2 * (L + 1)) (.int .u8 ((at_ : Int) / 256))) hwg (256 - 2 * (L + 1) + 1) (.int .u8 at_)
  have hlen : (splice (cur.set 0 (.int .u8 ((c0 + 1) % 256))) at_ bs).length = cap := by rw [length_splice _ _ _ (by simp; omega)]; simpa using hcl
  refine ⟨_, rfl, ?_, hb7⟩
  have ho := row_owns (n := 256) (cap := cap) hg7 (by simp [hlen]) hcap hcm hwg
  have he : ((((splice (cur.set 0 (.int .u8 ((c0 + 1) % 256))) at_ bs).set (256 - 2 * (L + 1)) (.int .u8 ((at_ : Int) / 256))).set (256 - 2 * (L + 1) + 1) (.int .u8 at_)).take 256) =
      (((splice (ns.set 0 (.int .u8 ((c0 + 1) % 256))) at_ bs).set (256 - 2 * (L + 1)) (.int .u8 ((at_ : Int) / 256))).set (256 - 2 * (L + 1) + 1) (.int .u8 at_)) := by
    rw [← htake, List.take_set, List.take_set]
    congr 2
    unfold splice
    rw [← List.take_set, List.take_append, List.take_append, List.take_take, List.length_take, List.take_take, List.drop_take, List.length_set, Nat.min_eq_left (by omega : at_ ≤ 256), Nat.min_eq_left (by omega : at_ ≤ cur.length), List.take_of_length_le (by omega : bs.length ≤ 256 - at_)]
    congr 3
    all_goals omega
  rw [← he]
  exact ho
end Go.Proofs.YtimdilbcijgadaaGreatDoor

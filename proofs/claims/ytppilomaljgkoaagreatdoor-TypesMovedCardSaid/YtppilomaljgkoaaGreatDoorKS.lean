/- types.Uses: the places of columns, in order, each once. -/
import Derived.Test.YtppilomaljgkoaaGreatDoorKO
import Derived.Test.YtppilomaljgkoaaGreatDoorKQ
import Derived.Test.YtppilomaljgkoaaGreatDoorKD
set_option linter.unusedVariables false
set_option linter.unusedSimpArgs false
namespace Go.Proofs.YtppilomaljgkoaaGreatDoor
open Go Go.Aev Go.RowKit Go.Sort
def RowInts (w : World) (base : Nat) (u : Value) (xs : List Int) : Prop :=
  (∃ a, u = .slice a 0 0 ∧ xs = []) ∨ ∃ b cap cur T, u = .slice (some ⟨b, 0, none⟩) xs.length cap ∧ base ≤ b ∧ w.heap[b]? = some (.cells cur T (0, 0)) ∧ xs.length ≤ cap ∧ cap ≤ maxLen ∧ cur.size = cap ∧ ∀ (i : Nat) (x : Int), xs[i]? = some x → cur[i]? = some (Value.int .i64 x)
theorem ubody : Tryz.f21.body = some (.seq UR0 (.seq UR1 (.seq ULP URS))) := by kernel_rfl
theorem tmps23 {a : Array Value} (h : a.size = 23) : ∃ t0 t1 t2 t3 t4 t5 t6 t7 t8 t9 t10 t11 t12 t13 t14 t15 t16 t17 t18 t19 t20 t21 t22, a = #[t0, t1, t2, t3, t4, t5, t6, t7, t8, t9, t10, t11, t12, t13, t14, t15, t16, t17, t18, t19, t20, t21, t22] := by
  obtain ⟨l⟩ := a
  match l, h with
  | [t0, t1, t2, t3, t4, t5, t6, t7, t8, t9, t10, t11, t12, t13, t14, t15, t16, t17, t18, t19, t20, t21, t22], _ => exact ⟨t0, t1, t2, t3, t4, t5, t6, t7, t8, t9, t10, t11, t12, t13, t14, t15, t16, t17, t18, t19, t20, t21, t22, rfl⟩
theorem holds_of {w : World} {b : Nat} {cur : Array Value} {T : TypeId} {zs : List Int} (hheap : w.heap[b]? = some (.cells cur T (0, 0))) (hcells : ∀ (i : Nat) (x : Int), zs[i]? = some x → cur[i]? = some (Value.int .i64 x)) :
    Go.Sort.Holds (Value.int .i64) w b 0 zs.toArray := by
  intro j hj
  simp only [List.size_toArray] at hj
  rw [Nat.zero_add]
  refine ⟨?_, by simp [World.frozen?, hheap]⟩
  rw [cell_of_row w b j cur T (0, 0) hheap, hcells j zs[j] (List.getElem?_eq_getElem hj)]
  rw [getElem!_pos zs.toArray j (by simpa using hj)]
  simp
theorem put_get {d : List Int} {cur : Array Value} (hd : d.length ≤ cur.size) {i : Nat} {x : Int} (hx : d[i]? = some x) : (putCells (Value.int .i64) 0 d.toArray cur)[i]? = some (Value.int .i64 x) := by
  have hi : i < d.length := (List.getElem?_eq_some_iff.1 hx).1
  have hc : i < cur.size := by omega
  simp only [putCells, Array.getElem?_mapIdx, Array.getElem?_eq_getElem hc, Option.map_some]
  rw [if_pos ⟨Nat.zero_le _, by simpa using hi⟩, Nat.sub_zero, getElem!_pos d.toArray i (by simpa using hi)]
  rw [List.getElem?_eq_getElem hi] at hx
  cases hx
  simp
theorem put_size {d : Array Int} {cur : Array Value} : (putCells (Value.int .i64) 0 d cur).size = cur.size := by simp [putCells]
theorem urs_walk {base : Nat} {v3 : Value} {zs : List Int} (w : World) (hrow : RowInts w base v3 zs) (hlen : zs.length < 4611686018427387904) {R : Ending → World → Prop}
    (hR : ∀ u w', Below base w w' → RowInts w' base u (Lib.compact (zs.mergeSort fun x y => decide (x ≤ y))) → R (.returned u) w') (a : Act) (ha : a.tmps.size = 23) (h3 : a.tmps[3]? = some v3) (hd : a.defers = []) :
    URS.wp Tryz.prog (bodyPost Tryz.prog Tryz.f21 R) a w := by
  obtain ⟨t0, t1, t2, t3, t4, t5, t6, t7, t8, t9, t10, t11, t12, t13, t14, t15, t16, t17, t18, t19, t20, t21, t22, ht⟩ := tmps23 ha
  obtain ⟨tm, df⟩ := a
  simp only at ht hd h3
  subst ht hd
  simp only [List.getElem?_toArray, List.getElem?_cons_succ, List.getElem?_cons_zero, Option.some.injEq] at h3
  subst h3
  unfold URS UB Tryz.f21
  simp only [Option.getD_some, sq2]
  rcases hrow with ⟨p, rfl, rfl⟩ | ⟨b, cap, cur, T, rfl, hb, hheap, hnc, hcm, hsz, hcells⟩
  · go_wp2_with (first | (go_at_call 42; refine (Tryz.slices_Sort_int_none p 0 _).mono ?_; rintro e w' ⟨rfl, rfl⟩) | (go_at_call 43; refine (Tryz.slices_Compact_int_empty p 0 _).mono ?_; rintro e w' ⟨rfl, rfl⟩))
    exact hR (.slice p 0 0) _ (.refl _ _) (.inl ⟨p, rfl, by simp [Lib.compact, Lib.compactUpTo]⟩)
  · have hlt := lt_of_heap hheap
    let ss : List Int := zs.mergeSort fun x y => decide (x ≤ y)
    have hss : ss.length = zs.length := List.length_mergeSort _
    let cc : List Int := Lib.compact ss
    have hcc : cc.length ≤ ss.length := by
      show (Lib.compactUpTo ss.toArray ss.length).length ≤ ss.length
      unfold Lib.compactUpTo
      rw [List.length_map]
      refine Nat.le_trans (List.length_filter_le _ _) ?_
      simp
    have hfin : ∀ m os q, R (.returned (.slice (some ⟨b, 0, none⟩) cc.length cap)) (putRow (Value.int .i64) (Sort.ahead (grow (putRow (Value.int .i64) (Sort.ahead w m) b 0 ss.toArray) os) q) b 0 (cc ++ List.replicate (ss.length - cc.length) 0).toArray) := by
      intro m os q
      let w1 := sortWorld (Value.int .i64) w b 0 m ss.toArray os
      have h1 := sortWorld_row (Value.int .i64) w b 0 m ss.toArray os hheap
      obtain ⟨f1, f2, f3, f4⟩ := sortWorld_facts (Value.int .i64) w b 0 m ss.toArray os
      let d2 : List Int := cc ++ List.replicate (ss.length - cc.length) 0
      have h2 := sortWorld_row (Value.int .i64) w1 b 0 q d2.toArray #[] h1
      obtain ⟨g1, g2, g3, g4⟩ := sortWorld_facts (Value.int .i64) w1 b 0 q d2.toArray #[]
      have he : sortWorld (Value.int .i64) w1 b 0 q d2.toArray #[] = putRow (Value.int .i64) (Sort.ahead (grow (putRow (Value.int .i64) (Sort.ahead w m) b 0 ss.toArray) os) q) b 0 d2.toArray := by
        show grow (putRow (Value.int .i64) (Sort.ahead w1 q) b 0 d2.toArray) #[] = _
        unfold grow
        simp
        rfl
      rw [← he]
      refine hR _ _ ⟨g1.trans f1, g2.trans f2, g3.trans f3, Nat.le_trans f4 g4, fun k hk => ?_⟩ (.inr ⟨b, cap, _, T, rfl, hb, h2, (by show cc.length ≤ cap; omega), hcm, by rw [put_size, put_size]; exact hsz, fun i x hx => ?_⟩)
      · rw [sortWorld_other (Value.int .i64) w1 b 0 q d2.toArray #[] (by show k < w1.heap.size; exact Nat.lt_of_lt_of_le (show k < w.heap.size by omega) f4) (by omega), sortWorld_other (Value.int .i64) w b 0 m ss.toArray os (by omega) (by omega)]
      · refine put_get (by rw [put_size]; simp [d2]; omega) ?_
        show d2[i]? = some x
        rw [List.getElem?_append_left (List.getElem?_eq_some_iff.1 hx).1]
        exact hx
    have hH := holds_of hheap hcells
    have hH2 : ∀ m os, Go.Sort.Holds (Value.int .i64) (grow (putRow (Value.int .i64) (Sort.ahead w m) b 0 ss.toArray) os) b 0 ss.toArray := fun m os =>
      holds_of (sortWorld_row (Value.int .i64) w b 0 m ss.toArray os hheap) fun i x hx => put_get (by omega) hx
    go_wp2_with (first | (go_at_call 42; refine (Tryz.slices_Sort_int b 0 cap zs _ hH hlt hlen).mono ?_; rintro e w' ⟨rfl, m, os, rfl⟩) | (go_at_call 43; refine (by rw [← hss]; exact Tryz.slices_Compact_int b 0 cap ss _ (hH2 _ _) (by omega) (by omega) : Calls Tryz.prog 43 _ _ _).mono ?_; rintro e w' ⟨rfl, q, rfl⟩))
    have hf := hfin m os q
    rw [hss] at hf
    exact hf
end Go.Proofs.YtppilomaljgkoaaGreatDoor

/- The functions that range over a function: walked by hand. -/
import Derived.RangeFuncKeeps
import Derived.RangeFuncBound
import Derived.RangeFuncLeaves
import Derived.RangeFuncBox
import Derived.RangeFuncNested
import Derived.Shelf.Abstract
import Derived.WalkKit
import Derived.OwnWalkIn
import Derived.TacticsInMore
import Derived.LoopIn
import Derived.Test.YtppilomaljgkoaaGreatDoorAevD
import Derived.Test.YtppilomaljgkoaaGreatDoorProg
set_option linter.unusedVariables false
set_option linter.unusedSimpArgs false
namespace Go.Proofs.YtppilomaljgkoaaGreatDoor
open Go Go.Aev Go.RowKit Go.Shelf
structure El where
  k : Int
  n : Int
  vk : Int
  vn : Int
  vs : ByteArray
  tab : ByteArray
  col : ByteArray
  kids : List (List Dat)
  oa : Option Addr
  ln : Nat
  cap : Nat
def El.dat (x : El) : List Dat := [.int .i64 x.k, .int .i64 x.n, .int .i64 x.vk, .int .i64 x.vn, .str x.vs, .str x.tab, .str x.col, .sl x.kids]
def El.vals (x : El) : Array Value := #[.int .i64 x.k, .int .i64 x.n, .int .i64 x.vk, .int .i64 x.vn, .string x.vs, .string x.tab, .string x.col, .slice x.oa x.ln x.cap]
set_option maxRecDepth 100000 in
set_option maxHeartbeats 1000000 in
theorem all_in (F : Fence) (n : Nat) (h42 : F.fn 62) (hro : F.round = none) (x : El) (w : World) :
    CallsIn F n Tryz.prog 62 #[.agg x.vals] w fun e w' => e = .returned (.func (.func 83) #[] #[.pointer (some ⟨w.heap.size, 0, none⟩)]) ∧ w' = w.alloc (.cells x.vals 35) := by
  refine callsIn_of_wp Tryz.func62 rfl h42 ?_ hro
  simp only [Tryz.ntmps62, List.size_toArray, List.length_cons, List.length_nil, Nat.reduceAdd, Nat.reduceSub, Array.replicate_succ, Array.replicate_zero, List.push_toArray, List.append_toArray, List.nil_append, List.cons_append]
  gi_wp2
  go_ret
  exact ⟨rfl, rfl⟩
theorem hdd {F : Fence} (hd : F.depth = none) (k : Nat) : F.depth.isSome = true → 1 ≤ k := fun h => by rw [hd] at h; cases h
theorem room_none {F : Fence} (hd : F.depth = none) (k : Nat) : F.room k := fun d h => by rw [hd] at h; cases h
theorem roundAny {F : Fence} (hd : F.depth = none) {m m' : Nat} {P : Program} {l : Nat} {f : FuncId} {tmps : Array Value} {assign body : Code} {w : World} {R : Ending → World → Prop}
    (h : RoundIn F m P l f tmps assign body w R) : RoundIn F m' P l f tmps assign body w R := ⟨h.1, fun c cs _ => h.2 c cs (room_none hd _)⟩
theorem yieldAny {F : Fence} (hd : F.depth = none) {m : Nat} (m' : Nat) {P : Program} {l : Nat} {args : Array Value} {W : World} {R : Ending → World → Prop} (h : YieldAt F m P l args W R) : YieldAt F m' P l args W R := by
  obtain ⟨fn, tmps, assign, body, hy, hR⟩ := h
  exact ⟨fn, tmps, assign, body, hy, roundAny hd hR⟩
def preL (f : List Dat → Option (List (List Dat))) : List (List Dat) → Option (List (List Dat))
  | [] => some []
  | k :: ks => match f k, preL f ks with
    | some a, some b => some (a ++ b)
    | _, _ => none
def preK : Nat → List Dat → Option (List (List Dat))
  | 0, _ => none
  | n + 1, e => match e with
    | [.int .i64 _, .int .i64 _, .int .i64 _, .int .i64 _, .str _, .str _, .str _, .sl kids] => match preL (preK n) kids with
      | some l => some (e :: l)
      | none => none
    | _ => none
theorem preK_el {n : Nat} {e : List Dat} {l : List (List Dat)} (h : preK n e = some l) : ∃ (m : Nat) (k n' vk vn : Int) (vs tab col : ByteArray) (kids : List (List Dat)) (r : List (List Dat)), n = m + 1 ∧
    e = [.int .i64 k, .int .i64 n', .int .i64 vk, .int .i64 vn, .str vs, .str tab, .str col, .sl kids] ∧ preL (preK m) kids = some r ∧ l = e :: r := by
  cases n with
  | zero => cases h
  | succ m =>
    unfold preK at h
    split at h
    · rename_i a b c d s t u kids
      split at h
      · rename_i r hr
        cases h
        exact ⟨m, a, b, c, d, s, t, u, kids, r, rfl, rfl, hr, rfl⟩
      · cases h
    · cases h
theorem el_at {w : World} {M : Nat → Nat} {kids : List (List Dat)} {oa : Option Addr} {ln cap : Nat} (hr : Rep w M (.sl kids) (.slice oa ln cap)) {i : Nat} {k n vk vn : Int} {vs tab col : ByteArray} {ks : List (List Dat)}
    (hi : kids[i]? = some [.int .i64 k, .int .i64 n, .int .i64 vk, .int .i64 vn, .str vs, .str tab, .str col, .sl ks]) : ln = kids.length ∧ ∃ (a : Addr) (oa' : Option Addr) (ln' cap' : Nat), oa = some a ∧ a.spot = none ∧
      Rep w M (.sl ks) (.slice oa' ln' cap') ∧ ∀ j v, (El.vals ⟨k, n, vk, vn, vs, tab, col, ks, oa', ln', cap'⟩)[j]? = some v → w.cell? (a.add (i * 8 + j)) = some v ∧ a.off + (i * 8 + j) < M a.block := by
  cases hr with
  | nilS => simp at hi
  | sl us hn hc hm hsp he hcell hrp =>
    rename_i a size
    subst hn
    have hil : i < kids.length := (List.getElem?_eq_some_iff.1 hi).1
    have hs8 : size = 8 := (he _ (List.mem_of_getElem? hi)).symm
    subst hs8
    have h0 := hrp i 0 _ _ hi rfl
    have h1 := hrp i 1 _ _ hi rfl
    have h2 := hrp i 2 _ _ hi rfl
    have h3 := hrp i 3 _ _ hi rfl
    have h4 := hrp i 4 _ _ hi rfl
    have h5 := hrp i 5 _ _ hi rfl
    have h6 := hrp i 6 _ _ hi rfl
    have h7 := hrp i 7 _ _ hi rfl
    have hb : ∀ j, j < 8 → i * 8 + j < kids.length * 8 := fun j hj => by omega
    generalize e0 : us (i * 8 + 0) = u0 at h0
    generalize e1 : us (i * 8 + 1) = u1 at h1
    generalize e2 : us (i * 8 + 2) = u2 at h2
    generalize e3 : us (i * 8 + 3) = u3 at h3
    generalize e4 : us (i * 8 + 4) = u4 at h4
    generalize e5 : us (i * 8 + 5) = u5 at h5
    generalize e6 : us (i * 8 + 6) = u6 at h6
    generalize e7 : us (i * 8 + 7) = u7 at h7
    have hsl : ∃ oa' ln' cap', u7 = .slice oa' ln' cap' := by cases h7 <;> exact ⟨_, _, _, rfl⟩
    obtain ⟨oa', ln', cap', rfl⟩ := hsl
    cases h0; cases h1; cases h2; cases h3; cases h4; cases h5; cases h6
    refine ⟨rfl, a, oa', ln', cap', rfl, hsp (by omega), h7, fun j v hj => ?_⟩
    have hj8 : j < 8 := by have := (Array.getElem?_eq_some_iff.1 hj).1; simpa [El.vals] using this
    have hc := hcell (i * 8 + j) (hb j hj8)
    refine ⟨?_, hc.2⟩
    rw [hc.1]
    match j, hj8 with
    | 0, _ => rw [e0]; exact hj
    | 1, _ => rw [e1]; exact hj
    | 2, _ => rw [e2]; exact hj
    | 3, _ => rw [e3]; exact hj
    | 4, _ => rw [e4]; exact hj
    | 5, _ => rw [e5]; exact hj
    | 6, _ => rw [e6]; exact hj
    | 7, _ => rw [e7]; exact hj
abbrev Elm (w : World) (M : Nat → Nat) := { x : El // Rep w M (.sl x.kids) (.slice x.oa x.ln x.cap) }
def datsOf {w : World} {M : Nat → Nat} : List (Elm w M) → List (List Dat)
  | [] => []
  | x :: xs => x.1.dat :: datsOf xs
theorem datsOf_append {w : World} {M : Nat → Nat} : ∀ (a b : List (Elm w M)), datsOf (a ++ b) = datsOf a ++ datsOf b
  | [], _ => rfl
  | x :: a, b => by show x.1.dat :: datsOf (a ++ b) = _; rw [datsOf_append a b]; rfl
theorem datsOf_length {w : World} {M : Nat → Nat} : ∀ (a : List (Elm w M)), (datsOf a).length = a.length
  | [] => rfl
  | x :: a => congrArg (· + 1) (datsOf_length a)
theorem rep_len {w : World} {M : Nat → Nat} {kids : List (List Dat)} {oa : Option Addr} {ln cap : Nat} (hr : Rep w M (.sl kids) (.slice oa ln cap)) : ln = kids.length ∧ ln ≤ maxLen := by
  cases hr with
  | nilS => exact ⟨rfl, Nat.zero_le _⟩
  | sl us hn hc hm hsp he hcell hrp => exact ⟨hn.symm, by omega⟩
def rowOf (B : Nat) (W : World) : Option Nat := match W.cell? ⟨B, 0, none⟩ with
  | some (.slice (some a) _ _) => some a.block
  | _ => none
structure Kp (n₀ B : Nat) (W W' : World) : Prop where
  below : Below n₀ W W'
  same : ∀ b o, W.heap[b]? = some o → o.isCells = true → b ≠ B → rowOf B W ≠ some b → W'.heap[b]? = some o
  row : ∀ b, rowOf B W' = some b → rowOf B W = some b ∨ (W.heap.size ≤ b ∧ b < W'.heap.size)
def RowIn (B : Nat) (W : World) : Prop := B < W.heap.size ∧ ∀ b, rowOf B W = some b → b < W.heap.size
theorem Kp.trans {n₀ B : Nat} {X Y Z : World} (h : Kp n₀ B X Y) (k : Kp n₀ B Y Z) : Kp n₀ B X Z := by
  refine ⟨h.below.trans k.below, fun b o ho hc hB hr => ?_, fun b hb => ?_⟩
  · have hlt : b < X.heap.size := (Array.getElem?_eq_some_iff.1 ho).1
    have hrY : rowOf B Y ≠ some b := fun e => by
      rcases h.row b e with h1 | h1
      · exact hr h1
      · omega
    exact k.same b o (h.same b o ho hc hB hr) hc hB hrY
  · have s1 := h.below.size
    have s2 := k.below.size
    rcases k.row b hb with h1 | h1
    · rcases h.row b h1 with h2 | h2
      · exact .inl h2
      · exact .inr ⟨h2.1, by omega⟩
    · exact .inr ⟨by omega, h1.2⟩
theorem Kp.rowIn {n₀ B : Nat} {X Y : World} (h : Kp n₀ B X Y) (hx : RowIn B X) : RowIn B Y := by
  have s1 := h.below.size
  refine ⟨Nat.lt_of_lt_of_le hx.1 s1, fun b hb => ?_⟩
  rcases h.row b hb with h1 | h1
  · exact Nat.lt_of_lt_of_le (hx.2 b h1) s1
  · exact h1.2
theorem rowOf_same {B : Nat} {X Y : World} (h : Y.heap[B]? = X.heap[B]?) : rowOf B Y = rowOf B X := by
  unfold rowOf World.cell?
  rw [show (⟨B, 0, none⟩ : Addr).block = B from rfl, h]
theorem Kp.of_grown {n₀ B : Nat} {X Y : World} (hn : n₀ ≤ X.heap.size) (hB : B < X.heap.size) (h : X.grownBy Y none) : Kp n₀ B X Y := by
  have hs : ∀ b, b < X.heap.size → Y.heap[b]? = X.heap[b]? := fun b hb => h.block b hb (by simp)
  refine ⟨⟨h.os, h.tape, h.output, h.size, fun b hb => hs b (by omega)⟩, fun b o ho _ _ _ => (hs b (Array.getElem?_eq_some_iff.1 ho).1).trans ho, fun b hb => .inl ?_⟩
  rwa [rowOf_same (hs B hB)] at hb
theorem kp_putObj {n₀ B : Nat} {w : World} (hn : n₀ ≤ w.heap.size) (hB : B < w.heap.size) (W : World) (l : Nat) (o o' : Obj) (hl : w.heap.size ≤ l) (h : W.heap[l]? = some o) (hc : o.isCells = false) (hw : o.isWalk = false) : Kp n₀ B W (W.putObj l o') := by
  have hs : ∀ b, b ≠ l → (W.putObj l o').heap[b]? = W.heap[b]? := fun b hb => World.putObj_heap_other hb
  refine ⟨belowK_b hn W l o o' hl h hc hw, fun b x hx hxc hB' hr => ?_, fun b hb => .inl ?_⟩
  · have hne : b ≠ l := fun e => by
      subst e
      rw [h] at hx
      cases hx
      rw [hc] at hxc
      cases hxc
    exact (hs b hne).trans hx
  · rwa [rowOf_same (hs B (by omega))] at hb
theorem keeps_below {n₀ : Nat} {w W : World} {M : Nat → Nat} (hM : ∀ b, n₀ ≤ b → M b = 0) (h : Below n₀ w W) : Keeps w W M M := by
  intro a v hc hlt
  have hb : a.block < n₀ := by
    apply Decidable.byContradiction
    intro hn
    rw [hM _ (by omega)] at hlt
    omega
  exact ⟨(h.cell (p := a) hb).trans hc, hlt⟩
set_option maxRecDepth 100000 in
set_option maxHeartbeats 4000000 in
theorem walk_inW (F : Fence) (hd : F.depth = none) (h53 : F.fn 84) (hro : F.round = none) (l n₀ N B Bs : Nat) (w0 : World) (M0 : Nat → Nat) (hM : ∀ b, n₀ ≤ b → M0 b = 0)
    (J Jx : List (Elm w0 M0) → World → Prop) (hJ : AbidesFrom Bs J)
    (hY : ∀ m pre x W, J pre W → pre.length < N → YieldAt F m Tryz.prog l #[.agg x.1.vals] W fun e W' =>
      (e = .returned (.bool true) ∧ J (pre ++ [x]) W' ∧ Kp n₀ B W W') ∨ (e = .returned (.bool false) ∧ Jx (pre ++ [x]) W')) :
    ∀ (k : Nat) (x : Elm w0 M0) (ys : List (List Dat)), preK k x.1.dat = some ys → ∀ (n : Nat) (pre : List (Elm w0 M0)) (W : World), Below n₀ w0 W → n₀ ≤ W.heap.size → RowIn B W → J pre W → pre.length + ys.length ≤ N →
      CallsIn F n Tryz.prog 84 #[.agg x.1.vals, .func (.yield l) #[] #[]] W fun e W' =>
        (e = .returned (.bool true) ∧ Kp n₀ B W W' ∧ ∃ xs : List (Elm w0 M0), datsOf xs = ys ∧ J (pre ++ xs) W') ∨
        (e = .returned (.bool false) ∧ ∃ (xs : List (Elm w0 M0)) (q : List (List Dat)), datsOf xs ++ q = ys ∧ Jx (pre ++ xs) W') := by
  intro k
  induction k with
  | zero => intro x ys h; cases h
  | succ k ih =>
  intro x ys hys n pre W hbw hnW hrow hJW hN
  obtain ⟨_, _, _, _, _, _, _, _, kids, r, hk, hdat, hpre, rfl⟩ := preK_el hys
  cases hk
  obtain ⟨⟨xk, xn, xvk, xvn, xvs, xtab, xcol, xkids, oa, ln, cap⟩, hx⟩ := x
  simp only [El.dat, List.cons.injEq, Dat.sl.injEq, and_true] at hdat
  obtain ⟨_, _, _, _, _, _, _, rfl⟩ := hdat
  obtain ⟨hln, hlm⟩ := rep_len hx
  simp only at hln hlm
  subst hln
  have hg1 : W.grownBy (W.alloc (.cells (El.vals ⟨xk, xn, xvk, xvn, xvs, xtab, xcol, xkids, oa, xkids.length, cap⟩) 35)) none := World.grownBy_alloc W _ none
  have hJ1 := hJ _ _ _ none hJW hg1 (fun r e => by cases e)
  have hk1 := Kp.of_grown hnW hrow.1 hg1
  have hy1 := hY (n - 1) pre ⟨⟨xk, xn, xvk, xvn, xvs, xtab, xcol, xkids, oa, xkids.length, cap⟩, hx⟩ _ hJ1 (by simp at hN; omega)
  simp only [El.vals] at hg1 hJ1 hk1 hy1
  obtain ⟨fn, tmps, assign, body, hy, hR⟩ := hy1
  have c0 : ∀ j v, (#[.int .i64 xk, .int .i64 xn, .int .i64 xvk, .int .i64 xvn, .string xvs, .string xtab, .string xcol, .slice oa xkids.length cap] : Array Value)[j]? = some v →
      (W.alloc (.cells #[.int .i64 xk, .int .i64 xn, .int .i64 xvk, .int .i64 xvn, .string xvs, .string xtab, .string xcol, .slice oa xkids.length cap] 35)).cell? ⟨W.heap.size, j, none⟩ = some v := fun j v hj => by
    rw [cell_of_row _ _ _ _ _ _ (World.alloc_heap_new W _)]
    exact hj
  have e7 : ∀ W2, Kp n₀ B (W.alloc (.cells #[.int .i64 xk, .int .i64 xn, .int .i64 xvk, .int .i64 xvn, .string xvs, .string xtab, .string xcol, .slice oa xkids.length cap] 35)) W2 → W2.cell? ⟨W.heap.size, 7, none⟩ = some (.slice oa xkids.length cap) := fun W2 hk2 => by
    refine Eq.trans ?_ (c0 7 _ rfl)
    unfold World.cell?
    rw [show (⟨W.heap.size, 7, none⟩ : Addr).block = W.heap.size from rfl, hk2.same W.heap.size _ (World.alloc_heap_new W _) rfl (by have := hrow.1; omega) ?_, World.alloc_heap_new]
    intro hr
    rw [rowOf_same (hg1.block B hrow.1 (by simp))] at hr
    have := hrow.2 _ hr
    omega
  have d0 := c0 0 _ rfl
  have d1 := c0 1 _ rfl
  have d2 := c0 2 _ rfl
  have d3 := c0 3 _ rfl
  have d4 := c0 4 _ rfl
  have d5 := c0 5 _ rfl
  have d6 := c0 6 _ rfl
  have d7 := c0 7 _ rfl
  clear c0
  refine callsIn_of_wp Tryz.func84 rfl h53 ?_ hro
  simp only [El.vals, Tryz.ntmps84, List.size_toArray, List.length_cons, List.length_nil, Nat.reduceAdd, Nat.reduceSub, Array.replicate_succ, Array.replicate_zero, List.push_toArray, List.append_toArray, List.nil_append, List.cons_append]
  gi_wp2_with (first
    | ((try refine ⟨hdd hd _, ?_⟩); refine hR.mono ?_; clear hR; rintro e W2 (⟨rfl, hJ2, hk2⟩ | ⟨rfl, hx2⟩); (first | have c7 := e7 W2 hk2 | skip)))
  · gi_loopw [14] (fun v wr => ∃ (i : Nat) (xs : List (Elm w0 M0)) (rem : List (List Dat)), v = .int .i64 i ∧ i ≤ xkids.length ∧ preL (preK k) (xkids.drop i) = some rem ∧ datsOf xs ++ rem = r ∧
        J (pre ++ [⟨⟨xk, xn, xvk, xvn, xvs, xtab, xcol, xkids, oa, xkids.length, cap⟩, hx⟩] ++ xs) wr ∧ Kp n₀ B W wr) (fun v _ => xkids.length - (intOf v).toNat)
    case atStart =>
      exact ⟨0, [], r, rfl, Nat.zero_le _, by simpa using hpre, rfl, by simpa using hJ2, hk1.trans hk2⟩
    case round =>
      obtain ⟨i, xs, rem, rfl, hi, hrem, hr, hJr, hkr⟩ := hrel
      clear hy e7 hJ1 d0 d1 d2 d3 d4 d5 d6 d7 c7 hJ2 hk2 hk1 hg1
      have hbr : Below n₀ w0 wr := hbw.trans hkr.below
      have hnr : n₀ ≤ wr.heap.size := Nat.le_trans hnW hkr.below.size
      have hrr : RowIn B wr := hkr.rowIn hrow
      by_cases hil : i < xkids.length
      · have hdrop : xkids.drop i = xkids[i] :: xkids.drop (i + 1) := List.drop_eq_getElem_cons hil
        rw [hdrop] at hrem
        unfold preL at hrem
        split at hrem
        case h_2 => cases hrem
        rename_i ra rb hra hrb
        cases hrem
        obtain ⟨_, yk, yn, yvk, yvn, yvs, ytab, ycol, ykids, r', hk', he', _, hra'⟩ := preK_el hra
        obtain ⟨_, a, oa', ln', cap', rfl, hsp, hrep', hcells⟩ := el_at hx (i := i) (by rw [← he']; exact List.getElem?_eq_getElem hil)
        obtain ⟨ab, ao, asp⟩ := a
        obtain rfl : asp = none := hsp
        have gc : ∀ j v, (El.vals ⟨yk, yn, yvk, yvn, yvs, ytab, ycol, ykids, oa', ln', cap'⟩)[j]? = some v → wr.cell? ⟨ab, ao + i * 8 + j, none⟩ = some v := fun j v hj => by
          have h0 := hcells j v hj
          have := (keeps_below hM hbr _ _ h0.1 (by rw [add_block, add_off]; exact h0.2)).1
          rw [add_eq rfl] at this
          rw [Nat.add_assoc]
          exact this
        have g0 : wr.cell? ⟨ab, ao + i * 8, none⟩ = some (.int .i64 yk) := gc 0 _ rfl
        have g1 : wr.cell? ⟨ab, ao + i * 8 + 1, none⟩ = some (.int .i64 yn) := gc 1 _ rfl
        have g2 : wr.cell? ⟨ab, ao + i * 8 + 2, none⟩ = some (.int .i64 yvk) := gc 2 _ rfl
        have g3 : wr.cell? ⟨ab, ao + i * 8 + 3, none⟩ = some (.int .i64 yvn) := gc 3 _ rfl
        have g4 : wr.cell? ⟨ab, ao + i * 8 + 4, none⟩ = some (.string yvs) := gc 4 _ rfl
        have g5 : wr.cell? ⟨ab, ao + i * 8 + 5, none⟩ = some (.string ytab) := gc 5 _ rfl
        have g6 : wr.cell? ⟨ab, ao + i * 8 + 6, none⟩ = some (.string ycol) := gc 6 _ rfl
        have g7 : wr.cell? ⟨ab, ao + i * 8 + 7, none⟩ = some (.slice oa' ln' cap') := gc 7 _ rfl
        clear gc hcells
        have hil' : (i : Int) < (xkids.length : Int) := by omega
        have hg2 : wr.grownBy (wr.alloc (.cells #[.int .i64 yk, .int .i64 yn, .int .i64 yvk, .int .i64 yvn, .string yvs, .string ytab, .string ycol, .slice oa' ln' cap'] 35)) none := World.grownBy_alloc wr _ none
        have hk2 := Kp.of_grown hnr hrr.1 hg2
        have hJ2 := hJ _ _ _ none hJr hg2 (fun r e => by cases e)
        have ihc := ih ⟨⟨yk, yn, yvk, yvn, yvs, ytab, ycol, ykids, oa', ln', cap'⟩, hrep'⟩ ra (by rw [← hra, he']; rfl) (n - 1) _ _ (hbr.trans hk2.below) (Nat.le_trans hnr hk2.below.size) (hk2.rowIn hrr) hJ2 (by
          have h1 := congrArg List.length hr
          rw [List.length_append, datsOf_length] at h1
          simp only [List.length_append, List.length_cons, List.length_nil] at h1 hN ⊢
          omega)
        simp only [El.vals] at ihc
        clear ih hJ2
        gi_wp2_with ((try refine ⟨hdd hd _, ?_⟩); gi_at_call 84; refine ihc.mono ?_; clear ihc; rintro e W3 (⟨rfl, hk3, ys3, hys3, hJ3⟩ | ⟨rfl, ys3, q3, hq3, hx3⟩))
        · go_roundw
          case rel =>
            refine ⟨i + 1, xs ++ ys3, rb, ?_, by omega, hrb, by rw [datsOf_append, hys3, List.append_assoc]; exact hr, by rw [← List.append_assoc]; exact hJ3, (hkr.trans hk2).trans hk3⟩
            rw [show wrap64 ((i : Int) + 1) = (i : Int) + 1 by unfold maxLen at hlm; unfold wrap64; omega]
            rfl
          case measure => rw [show wrap64 ((i : Int) + 1) = (i : Int) + 1 by unfold maxLen at hlm; unfold wrap64; omega]; simp [intOf]; omega
        · go_ret
          refine .inr ⟨rfl, _ :: (xs ++ ys3), q3 ++ rb, ?_, by simpa [List.append_assoc] using hx3⟩
          show _ :: (datsOf (xs ++ ys3) ++ (q3 ++ rb)) = _
          rw [← hr, datsOf_append, ← hq3]
          simp [List.append_assoc]
      · have hil' : ¬ ((i : Int) < (xkids.length : Int)) := by omega
        gi_wp2
        go_ret
        have hie : i = xkids.length := by omega
        subst hie
        rw [List.drop_length] at hrem
        cases hrem
        refine .inl ⟨rfl, hkr, _ :: xs, ?_, by simpa [List.append_assoc] using hJr⟩
        show _ :: datsOf xs = _
        rw [← hr, List.append_nil]
  · go_ret
    exact .inr ⟨rfl, [_], r, rfl, hx2⟩
def ElBox (W : World) (b : Nat) (x : El) : Prop := W.heap[b]? = some (.cells x.vals 35 (0, 0))
theorem ElBox.cells {W : World} {b : Nat} {x : El} (h : ElBox W b x) : W.cell? ⟨b, 0, none⟩ = some (.int .i64 x.k) ∧ W.cell? ⟨b, 1, none⟩ = some (.int .i64 x.n) ∧ W.cell? ⟨b, 2, none⟩ = some (.int .i64 x.vk) ∧ W.cell? ⟨b, 3, none⟩ = some (.int .i64 x.vn) ∧ W.cell? ⟨b, 4, none⟩ = some (.string x.vs) ∧ W.cell? ⟨b, 5, none⟩ = some (.string x.tab) ∧ W.cell? ⟨b, 6, none⟩ = some (.string x.col) ∧ W.cell? ⟨b, 7, none⟩ = some (.slice x.oa x.ln x.cap) := by
  refine ⟨?_, ?_, ?_, ?_, ?_, ?_, ?_, ?_⟩ <;> (rw [cell_of_row _ _ _ _ _ _ h]; rfl)
theorem ElBox.grown {W W' : World} {b : Nat} {x : El} (h : ElBox W b x) (hg : W.grownBy W' none) : ElBox W' b x := (hg.block b (Array.getElem?_eq_some_iff.1 h).1 (by simp)).trans h
theorem grown_of_below {W W' : World} (h : Below W.heap.size W W') : W.grownBy W' none := ⟨h.os, h.tape, h.output, h.size, fun b hb _ => h.block b hb⟩
set_option maxRecDepth 100000 in
set_option maxHeartbeats 4000000 in
theorem all_stops (F : Fence) (hd : F.depth = none) (n : Nat) (h9 : F.fn 34) (h52 : F.fn 83) (h53 : F.fn 84) (hro : F.round = none) (n₀ B Bt k : Nat) (w0 w : World) (M0 : Nat → Nat) (hM : ∀ b, n₀ ≤ b → M0 b = 0)
    (x : Elm w0 M0) (z : Int) (ys : List (List Dat)) (hC : ∀ m W, Below n₀ w0 W → n₀ ≤ W.heap.size → CallsIn F m Tryz.prog 34 #[.agg x.1.vals] W fun e W' => e = .returned (.int .i64 z) ∧ Below W.heap.size W W')
    (hpre : z = 0 → preK k x.1.dat = some ys) (hw : Below n₀ w0 w) (hn : n₀ ≤ w.heap.size) (hrow : RowIn B w) (hBt : ElBox w Bt x.1) :
    SeqStopsK F n Tryz.prog 83 #[.pointer (some ⟨Bt, 0, none⟩)] (fun x : Elm w0 M0 => #[Value.agg x.1.vals]) (Kp n₀ B) (fun xs => datsOf xs = (if z = 0 then ys else [])) (fun pre => z = 0 ∧ ∃ q, datsOf pre ++ q = ys) ys.length w := by
  intro l J Jx W hW hJ hJx hY h0
  have hgW : w.grownBy W none := grown_of_below hW
  have hbW : Below n₀ w0 W := hw.trans (hW.mono hn)
  have hnW : n₀ ≤ W.heap.size := Nat.le_trans hn hW.size
  have hrW : RowIn B W := (Kp.of_grown hn hrow.1 hgW).rowIn hrow
  have hBW := hBt.grown hgW
  have hc := hC (n - 1) W hbW hnW
  have hafter : ∀ W1, Below W.heap.size W W1 → ElBox W1 Bt x.1 ∧ J [] W1 ∧ Below n₀ w0 W1 ∧ n₀ ≤ W1.heap.size ∧ RowIn B W1 := fun W1 hb1 => by
    have hg1 := grown_of_below hb1
    have hk1 := Kp.of_grown hnW hrW.1 hg1
    exact ⟨hBW.grown hg1, hJ _ _ _ none h0 hg1 (fun r e => by cases e), hbW.trans hk1.below, Nat.le_trans hnW hb1.size, hk1.rowIn hrW⟩
  have hwalk : z = 0 → ∀ W1, Below W.heap.size W W1 → CallsIn F (n - 1) Tryz.prog 84 #[.agg x.1.vals, .func (.yield l) #[] #[]] W1 fun e W' =>
        (e = .returned (.bool true) ∧ Kp n₀ B W1 W' ∧ ∃ xs : List (Elm w0 M0), datsOf xs = ys ∧ J ([] ++ xs) W') ∨
        (e = .returned (.bool false) ∧ ∃ (xs : List (Elm w0 M0)) (q : List (List Dat)), datsOf xs ++ q = ys ∧ Jx ([] ++ xs) W') := fun hz W1 hb1 => by
    obtain ⟨_, h1, h2, h3, h4⟩ := hafter W1 hb1
    exact walk_inW F hd h53 hro l n₀ ys.length B W.heap.size w0 M0 hM J Jx hJ (fun m pre x W hj hl => yieldAny hd m (hY pre x W hj hl)) k x ys (hpre hz) (n - 1) [] W1 h2 h3 h4 h1 (by simp)
  have hcell1 : ∀ W1, Below W.heap.size W W1 → ElBox W1 Bt x.1 := fun W1 h => (hafter W1 h).1
  have hJ1 : ∀ W1, Below W.heap.size W W1 → J [] W1 := fun W1 h => (hafter W1 h).2.1
  obtain ⟨d0, d1, d2, d3, d4, d5, d6, d7⟩ := hBW.cells
  clear hY hafter hBW hBt h0
  refine callsIn_of_wp Tryz.func83 rfl h52 ?_ hro
  simp only [El.vals, Tryz.ntmps83, List.size_toArray, List.length_cons, List.length_nil, Nat.reduceAdd, Nat.reduceSub, Array.replicate_succ, Array.replicate_zero, List.push_toArray, List.append_toArray, List.nil_append, List.cons_append] at hc hwalk ⊢
  by_cases hz : z = 0
  · subst hz
    gi_wp2_with (first
      | ((try refine ⟨hdd hd _, ?_⟩); gi_at_call 34; refine hc.mono ?_; clear hc; rintro e W1 ⟨rfl, hb1⟩; obtain ⟨f0, f1, f2, f3, f4, f5, f6, f7⟩ := (hcell1 W1 hb1).cells; have hw1 := hwalk rfl W1 hb1; clear hwalk)
      | ((try refine ⟨hdd hd _, ?_⟩); gi_at_call 84; refine hw1.mono ?_; clear hw1; rintro e W2 (⟨rfl, _, xs, hxs, hj⟩ | ⟨rfl, xs, q, hxs, hj⟩)))
    · go_end0
      exact ⟨⟨_, rfl⟩, .inl ⟨xs, hxs, by simpa using hj⟩⟩
    · go_end0
      exact ⟨⟨_, rfl⟩, .inr ⟨xs, ⟨q, hxs⟩, by simpa using hj⟩⟩
  · gi_wp2_with (first
      | ((try refine ⟨hdd hd _, ?_⟩); gi_at_call 34; refine hc.mono ?_; clear hc; rintro e W1 ⟨rfl, hb1⟩))
    go_end0
    exact ⟨⟨_, rfl⟩, ⟨[], rfl, hJ1 W1 hb1⟩⟩
def selOf {w : World} {M : Nat → Nat} (kv : Int) (xs : List (Elm w M)) : List (Elm w M) := xs.filter fun y => decide (y.1.k = kv)
def cellsOf {w : World} {M : Nat → Nat} : List (Elm w M) → List Value
  | [] => []
  | x :: xs => x.1.vals.toList ++ cellsOf xs
theorem cellsOf_append {w : World} {M : Nat → Nat} : ∀ (a b : List (Elm w M)), cellsOf (a ++ b) = cellsOf a ++ cellsOf b
  | [], _ => rfl
  | x :: a, b => by show x.1.vals.toList ++ cellsOf (a ++ b) = _; rw [cellsOf_append a b, ← List.append_assoc]; rfl
theorem selOf_snoc {w : World} {M : Nat → Nat} (kv : Int) (xs : List (Elm w M)) (x : Elm w M) : selOf kv (xs ++ [x]) = selOf kv xs ++ (if x.1.k = kv then [x] else []) := by
  unfold selOf
  rw [List.filter_append]
  by_cases h : x.1.k = kv <;> simp [h]
theorem Kp.refl {n₀ B : Nat} (W : World) : Kp n₀ B W W := ⟨Below.refl _ _, fun _ _ h _ _ _ => h, fun _ h => .inl h⟩
theorem step_append_own {F : Fence} {n : Nat} {P : Program} (w : World) {ops : Array Oper} {o : Oper} {a : Act} {K : Act → World → Prop} {Q : Exit → Act → World → Prop} {E : Prop}
    (hg : o.guard = none) (s x : Operand) (t : TypeId) (hop : o.op = Op.call { callee := Callee.builtin Builtin.append, args := #[s, x], argTypes := #[t, t] })
    (base : Nat) (e : TypeId) (i : TypeInfo) (z : Value) (size bytes : Nat) (h1 : P.underlying t = some (.slice e)) (h2 : P.info? e = some i) (h3 : i.zero = some z) (h4 : i.size = size) (h5 : i.bytes = bytes) (h6 : z.cells.size = size) (h7 : 0 < size)
    (v : Value) (k : Nat) (xs : List Value) (hs : a.eval s = v) (hown : w.ownsRow base e size v k xs) (ad : Addr) (m c : Nat) (news : List Value) (hx : a.eval x = .slice (some ad) m c) (hn : news.length = m * size)
    (hc : ∀ j u, news[j]? = some u → w.cell? (ad.add j) = some u) (h1c : ∀ u ∈ news, u.oneCell' = true) (b1 : k + m ≤ maxLen) (b2 : (k + m) * bytes ≤ 140737488355328) (b3 : base ≤ w.heap.size)
    (hK : ∀ v' w', w'.ownsRow base e size v' (k + m) (xs ++ news) → w.grownBy w' v.ownBlock → (∀ b, v'.ownBlock = some b → v.ownBlock = some b ∨ w.heap.size ≤ b) → K (a.put o.dst v') w') :
    if Region.wanted o (yielded ops a.tmps) = true then Oper.wpIn F n P o a w K Q else E := by
  obtain ⟨v', w', hrun, r1, r2, r3⟩ := run_append_own (P := P) w base t o.type e i z size bytes h1 h2 h3 h4 h5 h6 h7 v k xs hown ad m c news hn hc h1c b1 b2 b3
  obtain ⟨v'', w'', hrun', _, _, _, r4⟩ := append_own_sharp (P := P) w t o.type e i z size bytes h1 h2 h3 h4 h5 h6 h7 v k xs (World.ownsRowF_of ⟨hown.1, hown.2.imp_right fun ⟨g, cap, cur, q1, _, q3⟩ => ⟨g, cap, cur, q1, Nat.zero_le _, q3⟩⟩) ad m c news hn hc h1c b1 b2
  rw [hrun] at hrun'
  cases hrun'
  rw [if_pos (by simp [Region.wanted, hg])]
  unfold Oper.wpIn
  refine ⟨?_, ?_⟩
  · simp [Oper.about, hop, resolve, Target.leads, Sem.run_pure]
  · rw [Oper.semAt_plain F _ _ (by rw [hop]; intro c hc'; cases hc')]
    simp [execOp, hop, resolve, invoke, builtin, hs, hx, hrun, Result.andThen]
    exact hK v' w' r1 r2 r4
theorem step_store {F : Fence} {n : Nat} {P : Program} {w : World} {ops : Array Oper} {o : Oper} {a : Act} {K : Act → World → Prop} {Q : Exit → Act → World → Prop} {E : Prop}
    (hg : o.guard = none) (t : TypeId) (p v : Operand) (hop : o.op = Op.store t p v) (u : Value) (hu : a.eval v = u) (size b off : Nat) (hs : sizeT P t = some size) (hp : a.eval p = .pointer (some ⟨b, off, none⟩)) (hn : u.cells.size = size)
    (cur : Array Value) (T : TypeId) (hh : w.heap[b]? = some (.cells cur T (0, 0))) (hle : off + size ≤ cur.size) (h1 : ∀ x ∈ u.cells.toList, x.oneCell' = true)
    (hK : K (a.put o.dst undef) (w.setRow b (cur.toList.take off ++ u.cells.toList ++ cur.toList.drop (off + u.cells.toList.length)).toArray)) :
    if Region.wanted o (yielded ops a.tmps) = true then Oper.wpIn F n P o a w K Q else E := by
  have hrun := storeAt_run (P := P) (w := w) (t := t) hs hn hh hle h1
  rw [if_pos (by simp [Region.wanted, hg])]
  unfold Oper.wpIn
  refine ⟨?_, ?_⟩
  · simp [Oper.about, hop]
  · rw [Oper.semAt_plain F _ _ (by rw [hop]; intro c hc'; cases hc')]
    simp only [List.append_assoc] at hrun hK
    simp [execOp, hop, hu, hp, hrun, Result.andThen]
    simpa [Oper.uponIn] using hK
def zeroEl : List Value := [.int .i64 0, .int .i64 0, .int .i64 0, .int .i64 0, .string ⟨#[]⟩, .string ⟨#[]⟩, .string ⟨#[]⟩, .slice none 0 0]
theorem grown_alloc_drew (W : World) (o : Obj) : W.grownBy (W.alloc o).drew none := by
  have h := World.grownBy_alloc W o none
  exact ⟨h.os, h.tape, h.output, h.size, h.block⟩
theorem zero_cells (W : World) (j : Nat) (u : Value) (h : zeroEl[j]? = some u) : (W.alloc (.cells #[.int .i64 0, .int .i64 0, .int .i64 0, .int .i64 0, .string ⟨#[]⟩, .string ⟨#[]⟩, .string ⟨#[]⟩, .slice none 0 0] 35)).drew.cell? (Addr.add ⟨W.heap.size, 0, none⟩ j) = some u := by
  rw [add_eq rfl, Nat.zero_add]
  show (W.alloc _).cell? ⟨W.heap.size, j, none⟩ = some u
  rw [cell_of_row _ _ _ _ _ _ (World.alloc_heap_new W _), ← Array.getElem?_toList]
  exact h
theorem zero_one : ∀ u ∈ zeroEl, u.oneCell' = true := by
  intro u hu
  simp only [zeroEl, List.mem_cons, List.not_mem_nil, or_false] at hu
  rcases hu with rfl | rfl | rfl | rfl | rfl | rfl | rfl | rfl <;> rfl
structure KInv (w : World) (M : Nat → Nat) (kv : Int) (pre : List (Elm w M)) (W : World) : Prop where
  below : Below w.heap.size w W
  kind : Boxed W (w.heap.size + 1) 3 (.int .i64 kv)
  out : ∃ v, Boxed W (w.heap.size + 2) 33 v ∧ W.ownsRow w.heap.size 35 8 v (selOf kv pre).length (cellsOf (selOf kv pre))
theorem kinv_own {w : World} {M : Nat → Nat} {kv : Int} (B : Nat) (hB : w.heap.size ≤ B) : OwnFrom B (KInv w M kv) := by
  intro s X Y row hs hg hr
  have hne : ∀ b o, X.heap[b]? = some o → o.isCells = true → some b ≠ row := fun b o hb ho e => by
    obtain ⟨_, o', ho', hc⟩ := hr b e.symm
    rw [hb] at ho'
    cases ho'
    rw [ho] at hc
    cases hc
  refine ⟨hs.below.grown hg hs.below.size fun k e => Nat.le_trans hB (hr k e).1, hs.kind.kept hg (hne _ _ hs.kind rfl), ?_⟩
  obtain ⟨v, hv, ho⟩ := hs.out
  refine ⟨v, hv.kept hg (hne _ _ hv rfl), ho.kept hg ?_⟩
  rcases ho.2 with ⟨rfl, _⟩ | ⟨g, cap, cur, rfl, _, hgb, _⟩
  · exact .inl rfl
  · refine .inr fun e => ?_
    exact hne g _ hgb rfl (by rw [← e]; rfl)
theorem vals_one (x : El) : ∀ u ∈ x.vals.toList, u.oneCell' = true := by
  intro u hu
  simp only [El.vals, List.mem_cons, List.not_mem_nil, or_false] at hu
  rcases hu with rfl | rfl | rfl | rfl | rfl | rfl | rfl | rfl <;> rfl
theorem slice_one (a : Option Addr) (n c : Nat) : ∀ x ∈ (Value.slice a n c).cells.toList, x.oneCell' = true := by
  intro x hx
  obtain rfl : x = .slice a n c := by simpa [Value.cells] using hx
  rfl
theorem row_cur {w1 : World} {base g cap' m : Nat} {xs : List Value} (h : w1.ownsRow base 35 8 (.slice (some ⟨g, 0, none⟩) (m + 1) cap') (m + 1) xs) : ∃ cur, w1.heap[g]? = some (.cells cur 35 (0, 0)) ∧ m * 8 + 8 ≤ cur.size := by
  rcases h.2 with ⟨h, _⟩ | ⟨g', cp, cur, h, _, hgb, h1, _, h3, _⟩
  · cases h
  · cases h
    exact ⟨cur, hgb, by rw [h3]; omega⟩
theorem vals_len (x : El) : x.vals.toList.length = 8 := rfl
theorem region_fin {w W w1 W' : World} {M0 : Nat → Nat} {kv : Int} {pre : List (Elm w M0)} {y : Elm w M0} {g cap' m : Nat} {ov : Option Addr} {cv : Nat} {o : Obj} {cur : Array Value}
    (hI : KInv w M0 kv pre W) (hm : (selOf kv pre).length = m) (hyk : y.1.k = kv) (hv : Boxed W (w.heap.size + 2) 33 (.slice ov m cv)) (ho : W.ownsRow w.heap.size 35 8 (.slice ov m cv) m (cellsOf (selOf kv pre)))
    (hown' : w1.ownsRow w.heap.size 35 8 (.slice (some ⟨g, 0, none⟩) (m + 1) cap') (m + 1) (cellsOf (selOf kv pre) ++ zeroEl)) (hgrow' : (W.alloc o).drew.grownBy w1 (Value.slice ov m cv).ownBlock)
    (hsharp : ∀ b, (Value.slice (some ⟨g, 0, none⟩) (m + 1) cap').ownBlock = some b → (Value.slice ov m cv).ownBlock = some b ∨ (W.alloc o).drew.heap.size ≤ b) (hcur : w1.heap[g]? = some (.cells cur 35 (0, 0)))
    (f1 : W'.os = w1.os) (f2 : W'.tape = w1.tape) (f3 : W'.output = w1.output) (f4 : W'.heap.size = w1.heap.size) (hoth : ∀ b, b ≠ g → b ≠ w.heap.size + 2 → W'.heap[b]? = w1.heap[b]?)
    (hgc : W'.heap[g]? = some (.cells (cur.toList.take (m * 8) ++ y.1.vals.toList ++ cur.toList.drop (m * 8 + y.1.vals.toList.length)).toArray 35 (0, 0)))
    (hBc : W'.heap[w.heap.size + 2]? = some (.cells #[.slice (some ⟨g, 0, none⟩) (m + 1) cap'] 33 (0, 0))) :
    KeepsOthers W W' ∧ Kp w.heap.size (w.heap.size + 2) W W' ∧ KInv w M0 kv (pre ++ [y]) W' := by
  have hWt := grown_alloc_drew W o
  have hsz1 : W.heap.size ≤ w1.heap.size := Nat.le_trans hWt.size hgrow'.size
  have hWs : W.heap.size ≤ (W.alloc o).drew.heap.size := hWt.size
  have hv1 := (hv.kept hWt (by simp)).kept hgrow' (hv.not_row (by decide) ho)
  have hk1 := (hI.kind.kept hWt (by simp)).kept hgrow' (hI.kind.not_row (by decide) ho)
  have hBg : w.heap.size + 2 ≠ g := fun e => hv1.not_row (by decide) hown' (by rw [e]; rfl)
  have hKg : w.heap.size + 1 ≠ g := fun e => hk1.not_row (by decide) hown' (by rw [e]; rfl)
  obtain ⟨hgb, hmc, hcm, hcs, htake⟩ : w.heap.size ≤ g ∧ m + 1 ≤ cap' ∧ cap' ≤ maxLen ∧ cur.size = cap' * 8 ∧ cur.toList.take ((m + 1) * 8) = cellsOf (selOf kv pre) ++ zeroEl := by
    rcases hown'.2 with ⟨h, _⟩ | ⟨g', cp, cu, h, h0, h1, h2, h3, h4, h5⟩
    · cases h
    · cases h
      rw [hcur] at h1
      cases h1
      exact ⟨h0, h2, h3, h4, h5⟩
  have hownc : ∀ b, (Value.slice ov m cv).ownBlock = some b → w.heap.size ≤ b ∧ ∃ c, W.heap[b]? = some (.cells c 35 (0, 0)) := fun b hb => by
    rcases ho.2 with ⟨h, _⟩ | ⟨g', cp, cu, h, h0, h1, _⟩
    · rw [h] at hb; cases hb
    · rw [h] at hb; cases hb; exact ⟨h0, _, h1⟩
  have hgor : g < W.heap.size → (Value.slice ov m cv).ownBlock = some g := fun hlt => by
    rcases hsharp g rfl with h | h
    · exact h
    · omega
  have keep : ∀ b, b < W.heap.size → b ≠ g → b ≠ w.heap.size + 2 → some b ≠ (Value.slice ov m cv).ownBlock → W'.heap[b]? = W.heap[b]? := fun b hb h1 h2 h3 =>
    (hoth b h1 h2).trans ((hgrow'.block b (Nat.lt_of_lt_of_le hb hWs) h3).trans (hWt.block b hb (by simp)))
  have hrow : rowOf (w.heap.size + 2) W = (Value.slice ov m cv).ownBlock := by
    unfold rowOf; rw [hv.cell]; cases ov <;> rfl
  have hrow' : rowOf (w.heap.size + 2) W' = some g := by
    unfold rowOf; rw [Boxed.cell (t := 33) hBc]
  have hkp : Kp w.heap.size (w.heap.size + 2) W W' := by
    refine ⟨⟨f1.trans (hgrow'.os.trans hWt.os), f2.trans (hgrow'.tape.trans hWt.tape), f3.trans (hgrow'.output.trans hWt.output), by rw [f4]; exact hsz1, fun b hb => ?_⟩, fun b x hx hxc h1 h2 => ?_, fun b hb => ?_⟩
    · exact keep b (Nat.lt_of_lt_of_le hb hI.below.size) (by omega) (by omega) (fun e => by have := (hownc b e.symm).1; omega)
    · have hlt : b < W.heap.size := (Array.getElem?_eq_some_iff.1 hx).1
      rw [hrow] at h2
      exact (keep b hlt (fun e => h2 (by rw [e]; exact hgor (by omega))) h1 (fun e => h2 e.symm)).trans hx
    · rw [hrow'] at hb
      cases hb
      rw [hrow]
      rcases hsharp g rfl with h | h
      · exact .inl h
      · exact .inr ⟨by omega, (Array.getElem?_eq_some_iff.1 hgc).1⟩
  refine ⟨⟨by rw [f4]; exact hsz1, fun k x hx hxc => ?_⟩, hkp, hI.below.trans hkp.below, ?_, ⟨_, hBc, ?_⟩⟩
  · have hlt : k < W.heap.size := (Array.getElem?_eq_some_iff.1 hx).1
    have hnc : ∀ c T, W.heap[k]? ≠ some (.cells c T (0, 0)) := fun c T e => by rw [hx] at e; cases e; cases hxc
    refine (keep k hlt (fun e => ?_) (fun e => ?_) (fun e => ?_)).trans hx
    · obtain ⟨_, c, hc⟩ := hownc g (hgor (by omega))
      exact hnc c 35 (by rw [e]; exact hc)
    · exact hnc _ _ (by rw [e]; exact hv)
    · obtain ⟨_, c, hc⟩ := hownc k e.symm
      exact hnc c 35 hc
  · exact (hoth _ hKg (by omega)).trans hk1
  · rw [selOf_snoc, if_pos hyk, List.length_append, List.length_singleton, hm, cellsOf_append]
    have hxl : (cellsOf (selOf kv pre)).length = m * 8 := ho.1
    have ht0 : cur.toList.take (m * 8) = cellsOf (selOf kv pre) := by
      have := congrArg (List.take (m * 8)) htake
      rwa [List.take_take, show min (m * 8) ((m + 1) * 8) = m * 8 by omega, List.take_left' hxl] at this
    refine ⟨by rw [List.length_append, hxl]; show m * 8 + (y.1.vals.toList ++ []).length = _; rw [List.append_nil, vals_len]; omega, .inr ⟨g, cap', _, rfl, hgb, hgc, hmc, hcm, ?_, ?_⟩⟩
    · have e8 := vals_len y.1
      have ec : cur.toList.length = cur.size := Array.length_toList
      simp only [List.size_toArray, List.length_append, List.length_take, List.length_drop]
      omega
    · show ((cur.toList.take (m * 8) ++ y.1.vals.toList ++ cur.toList.drop (m * 8 + y.1.vals.toList.length))).take ((m + 1) * 8) = _ ++ (y.1.vals.toList ++ [])
      rw [ht0, List.append_nil, List.take_left' (by rw [List.length_append, hxl, vals_len]; omega)]
set_option maxRecDepth 100000 in
set_option maxHeartbeats 4000000 in
theorem kinds_in (F : Fence) (hd : F.depth = none) (n : Nat) (h9 : F.fn 34) (h40 : F.fn 51) (h42 : F.fn 62) (h52 : F.fn 83) (h53 : F.fn 84) (hro : F.round = none) (hn3 : 3 ≤ n) (k : Nat) (w : World) (M0 : Nat → Nat) (hM : ∀ b, w.heap.size ≤ b → M0 b = 0)
    (x : Elm w M0) (kv z : Int) (ys : List (List Dat)) (hC : ∀ m W, Below w.heap.size w W → w.heap.size ≤ W.heap.size → CallsIn F m Tryz.prog 34 #[.agg x.1.vals] W fun e W' => e = .returned (.int .i64 z) ∧ Below W.heap.size W W')
    (hpre : z = 0 → preK k x.1.dat = some ys) (hys : ys.length ≤ 1000) :
    CallsIn F n Tryz.prog 51 #[.agg x.1.vals, .int .i64 kv] w fun e w' => ∃ (v : Value) (xs : List (Elm w M0)), e = .returned v ∧ datsOf xs = (if z = 0 then ys else []) ∧ w'.ownsRow w.heap.size 35 8 v (selOf kv xs).length (cellsOf (selOf kv xs)) ∧ Below w.heap.size w w' := by
  have h1 : 1 ≤ n := by omega
  obtain ⟨W1, hW1⟩ : ∃ W1, w.alloc (.cells x.1.vals 35) = W1 := ⟨_, rfl⟩
  have s1 : W1.heap.size = w.heap.size + 1 := by rw [← hW1]; simp
  obtain ⟨W2, hW2⟩ : ∃ W2, W1.alloc (.cells #[.int .i64 kv] 3) = W2 := ⟨_, rfl⟩
  have s2 : W2.heap.size = w.heap.size + 2 := by rw [← hW2]; simp [s1]
  obtain ⟨W3, hW3⟩ : ∃ W3, W2.alloc (.cells #[.slice none 0 0] 33) = W3 := ⟨_, rfl⟩
  have s3 : W3.heap.size = w.heap.size + 3 := by rw [← hW3]; simp [s2]
  obtain ⟨W4, hW4⟩ : ∃ W4, W3.alloc (.cells x.1.vals 35) = W4 := ⟨_, rfl⟩
  have s4 : W4.heap.size = w.heap.size + 4 := by rw [← hW4]; simp [s3]
  have b1 : ElBox W1 w.heap.size x.1 := by rw [← hW1]; exact World.alloc_heap_new w _
  have b3 : ElBox W3 w.heap.size x.1 := by
    rw [← hW3]; refine ElBox.grown ?_ (World.grownBy_alloc W2 _ none)
    rw [← hW2]; exact b1.grown (World.grownBy_alloc W1 _ none)
  have k4 : Boxed W4 (w.heap.size + 1) 3 (.int .i64 kv) := by
    rw [← hW4, ← hW3]; refine Boxed.alloc (Boxed.alloc ?_ _) _
    rw [← hW2, ← s1]; exact Boxed.new W1 3 _
  have o4 : Boxed W4 (w.heap.size + 2) 33 (.slice none 0 0) := by
    rw [← hW4]; refine Boxed.alloc ?_ _
    rw [← hW3, ← s2]; exact Boxed.new W2 33 _
  have e4 : ElBox W4 (w.heap.size + 3) x.1 := by rw [← hW4, ← s3]; exact World.alloc_heap_new W3 _
  have bel : Below w.heap.size w W4 := by
    have g1 := (Below.refl w.heap.size w).alloc (Nat.le_refl _) (.cells x.1.vals 35)
    have g2 := g1.alloc (by simp) (.cells #[.int .i64 kv] 3)
    have g3 := g2.alloc (by simp; omega) (.cells #[.slice none 0 0] 33)
    have g4 := g3.alloc (by simp; omega) (.cells x.1.vals 35)
    rw [hW1, hW2, hW3, hW4] at g4
    exact g4
  have hrow : RowIn (w.heap.size + 2) W4 ∧ rowOf (w.heap.size + 2) W4 = none := by
    have : rowOf (w.heap.size + 2) W4 = none := by unfold rowOf; rw [o4.cell]
    exact ⟨⟨by omega, fun b hb => by rw [this] at hb; cases hb⟩, this⟩
  obtain ⟨d0, d1, d2, d3, d4, d5, d6, d7⟩ := b3.cells
  have hall : CallsIn F (n - 1) Tryz.prog 62 #[.agg x.1.vals] W3 fun e w' => e = .returned (.func (.func 83) #[] #[.pointer (some ⟨w.heap.size + 3, 0, none⟩)]) ∧ w' = W4 := by
    rw [← hW4, ← s3]; exact all_in F (n - 1) h42 hro x.1 W3
  have hstop := all_stops F hd (n - 1) h9 h52 h53 hro w.heap.size (w.heap.size + 2) (w.heap.size + 3) k w W4 M0 hM x z ys hC hpre bel (by omega) hrow.1 e4
  refine callsIn_of_wp_marks Tryz.func51 rfl h40 ?_ hro
  simp only [El.vals, Tryz.ntmps51, List.size_toArray, List.length_cons, List.length_nil, Nat.reduceAdd, Nat.reduceSub, Array.replicate_succ, Array.replicate_zero, List.push_toArray, List.append_toArray, List.nil_append, List.cons_append] at hall hW1 hW4 ⊢
  gi_wp2_with ((try refine ⟨hdd hd _, ?_⟩); gi_at_call 62; refine hall.mono ?_; clear hall; rintro e w' ⟨rfl, rfl⟩)
  refine wpIn_rangeFunc_ownH hro h1 (gf := 83) (lb := #[.pointer (some ⟨w.heap.size + 3, 0, none⟩)]) rfl h52 (enters_of Tryz.func83 (by kernel_rfl) rfl) hstop
    (fun h k => h.trans k) (fun W l o o' hl h hc hw => kp_putObj (w := w') (by omega) (by omega) W l o o' hl h hc hw) (Below.refl _ _) (fun _ => rfl)
    (KInv w M0 kv) (fun _ _ _ => False) (kinv_own _ (by omega)) (fun _ _ _ _ _ hs _ _ => hs) ⟨bel, k4, _, o4, by simp [selOf, cellsOf, World.ownsRow]⟩
    (fun y a' W => ∃ bx, a' = { tmps := #[.agg #[Value.int .i64 x.1.k, .int .i64 x.1.n, .int .i64 x.1.vk, .int .i64 x.1.vn, .string x.1.vs, .string x.1.tab, .string x.1.col, .slice x.1.oa x.1.ln x.1.cap], .int .i64 kv, .pointer (some ⟨w.heap.size, 0, none⟩), .pointer (some ⟨w.heap.size + 1, 0, none⟩), .slice none 0 0, .pointer (some ⟨w.heap.size + 2, 0, none⟩), .pointer (some ⟨bx, 0, none⟩), .agg #[Value.int .i64 x.1.k, .int .i64 x.1.n, .int .i64 x.1.vk, .int .i64 x.1.vn, .string x.1.vs, .string x.1.tab, .string x.1.col, .slice x.1.oa x.1.ln x.1.cap], .func (.func 83) #[] #[.pointer (some ⟨w.heap.size + 3, 0, none⟩)], .agg #[Value.int .i64 y.1.k, .int .i64 y.1.n, .int .i64 y.1.vk, .int .i64 y.1.vn, .string y.1.vs, .string y.1.tab, .string y.1.col, .slice y.1.oa y.1.ln y.1.cap], undef, undef, undef, undef, undef, undef, undef, undef, undef, undef, undef], defers := [] } ∧ ElBox W bx y.1)
    ?own ?assign ?body ?done ?stop
  case own =>
    rintro y a' _ X Y row ⟨bx, rfl, hb⟩ hg hr
    refine ⟨bx, rfl, (hg.block bx (Array.getElem?_eq_some_iff.1 hb).1 fun e => ?_).trans hb⟩
    obtain ⟨_, o', ho', hc⟩ := hr bx e.symm
    rw [show X.heap[bx]? = _ from hb] at ho'
    cases ho'
    cases hc
  case assign =>
    intro l pre y W K hI hK
    have hs := @Oper.semAt_some
    have hgr := World.grownBy_alloc W (.cells y.1.vals 35) none
    have hlt : w.heap.size + 2 < W.heap.size := by obtain ⟨v, hv, _⟩ := hI.out; exact hv.lt
    have hK1 := hK _ _ ((KeepsOthers.of_grownBy hgr (fun j o e => by cases e)).from _) (Kp.of_grown (by omega) (by omega) hgr) (kinv_own (w := w) (M := M0) (kv := kv) _ (Nat.le_refl _) pre W _ none hI hgr (fun r e => by cases e)) ⟨_, rfl, World.alloc_heap_new W _⟩
    simp only [El.vals] at hK1 ⊢
    clear hK hgr hI
    gi_wp2
    exact hK1
  case body =>
    rintro l pre y a' W hl ⟨r, hr⟩ hI ⟨bx, rfl, hb⟩ hlen
    have hs := @Oper.semAt_some
    obtain ⟨f0, f1, f2, f3, f4, f5, f6, f7⟩ := hb.cells
    have g0 := hI.kind.cell
    by_cases hyk : y.1.k = kv
    · gi_wp2
      obtain ⟨v, hv, ho⟩ := hI.out
      obtain ⟨ov, cv, rfl⟩ : ∃ ov cv, v = .slice ov (selOf kv pre).length cv := by
        rcases ho.2 with ⟨rfl, h0⟩ | ⟨g, cap, cur, rfl, _⟩
        · exact ⟨_, _, by rw [h0]⟩
        · exact ⟨_, _, rfl⟩
      have hv0 := hv.cell
      have hml : (selOf kv pre).length ≤ pre.length := List.length_filter_le _ _
      generalize hm : (selOf kv pre).length = m at *
      obtain ⟨i0, hi1, hi2, hi3, hi4⟩ := info_parts (P := Tryz.prog) (e := 35) (z := .agg #[.int .i64 0, .int .i64 0, .int .i64 0, .int .i64 0, .string ⟨#[]⟩, .string ⟨#[]⟩, .string ⟨#[]⟩, .slice none 0 0]) (size := 8) (bytes := 104) (by kernel_rfl)
      have hwW : w.heap.size ≤ W.heap.size := hI.below.size
      have hb1 : m + 1 ≤ maxLen := by unfold maxLen; omega
      have hb2 : (m + 1) * 104 ≤ 140737488355328 := by omega
      have hb3 : w.heap.size ≤ (W.alloc (.cells #[.int .i64 0, .int .i64 0, .int .i64 0, .int .i64 0, .string ⟨#[]⟩, .string ⟨#[]⟩, .string ⟨#[]⟩, .slice none 0 0] 35)).drew.heap.size := by
        have := (grown_alloc_drew W (.cells #[.int .i64 0, .int .i64 0, .int .i64 0, .int .i64 0, .string ⟨#[]⟩, .string ⟨#[]⟩, .string ⟨#[]⟩, .slice none 0 0] 35)).size
        omega
      have hoT := ho.kept (grown_alloc_drew W (.cells #[.int .i64 0, .int .i64 0, .int .i64 0, .int .i64 0, .string ⟨#[]⟩, .string ⟨#[]⟩, .string ⟨#[]⟩, .slice none 0 0] 35)) (by
        rcases ho.2 with ⟨h, _⟩ | ⟨g, cap, cur, h, _⟩
        · exact .inl (congrArg Value.ownBlock h)
        · rw [h]; exact .inr (by simp [Value.ownBlock]))
      obtain ⟨q0, q1, q2, q3, q4, q5, q6, q7⟩ := (hb.grown (grown_alloc_drew W (.cells #[.int .i64 0, .int .i64 0, .int .i64 0, .int .i64 0, .string ⟨#[]⟩, .string ⟨#[]⟩, .string ⟨#[]⟩, .slice none 0 0] 35))).cells
      have hvT0 := (hv.kept (grown_alloc_drew W (.cells #[.int .i64 0, .int .i64 0, .int .i64 0, .int .i64 0, .string ⟨#[]⟩, .string ⟨#[]⟩, .string ⟨#[]⟩, .slice none 0 0] 35)) (by simp)).cell
      have hlt0 : (m : Int) < ((m + 1 : Nat) : Int) := by omega
      have hlt1 : (m : Int) < (m : Int) + 1 := by omega
      refine wpIn_region_any (by kernel_rfl) ?_
      change wpAnyIn _ _ _ _ _ _ _ _ _ (World.drew W)
      refine wpAnyIn_ready (rs := [0, 1, 3]) (by kernel_rfl) (by simp) ?_
      refine AllReadyIn.cons rfl (fun K hK => ?_) (AllReadyIn.cons rfl (fun K hK => ?_) (AllReadyIn.cons rfl (fun K hK => ?_) AllReadyIn.nil))
      · go_simp
        refine hK _ _ ?_; clear hK K
        refine wpAnyIn_ready (rs := [1, 2, 3]) (by kernel_rfl) (by simp) ?_
        refine AllReadyIn.cons rfl (fun K hK => ?_) (AllReadyIn.cons rfl (fun K hK => ?_) (AllReadyIn.cons rfl (fun K hK => ?_) AllReadyIn.nil))
        · go_simp
          refine hK _ _ ?_; clear hK K
          refine wpAnyIn_ready (rs := [2, 3]) (by kernel_rfl) (by simp) ?_
          refine AllReadyIn.cons rfl (fun K hK => ?_) (AllReadyIn.cons rfl (fun K hK => ?_) AllReadyIn.nil)
          · go_simp
            refine hK _ _ ?_; clear hK K
            refine wpAnyIn_ready (rs := [3]) (by kernel_rfl) (by simp) ?_
            refine AllReadyIn.cons rfl (fun K hK => ?_) AllReadyIn.nil
            go_simp
            refine hK _ _ ?_; clear hK K
            refine wpAnyIn_ready (rs := [4]) (by kernel_rfl) (by simp) ?_
            refine AllReadyIn.cons rfl (fun K hK => ?_) AllReadyIn.nil
            refine step_append_own _ rfl (.tmp 14) (.tmp 17) 33 rfl w.heap.size 35 i0 _ 8 104 Tryz.underlying33 hi1 hi2 hi3 hi4 rfl (by decide) _ m _ rfl hoT ⟨W.heap.size, 0, none⟩ 1 1 zeroEl rfl rfl (zero_cells W) zero_one hb1 hb2 hb3 ?_
            intro v' w1 hown' hgrow' hsharp
            refine hK _ _ ?_; clear hK K
            obtain ⟨g, cap', rfl⟩ := ownsRow_succ hown'
            have hv1 := (hv.kept (grown_alloc_drew W _) (by simp)).kept hgrow' (hv.not_row (by decide) ho)
            have hBg : w.heap.size + 2 ≠ g := fun e => hv1.not_row (by decide) hown' (by rw [e]; rfl)
            obtain ⟨cur, hcur, hcsz⟩ := row_cur hown'
            refine wpAnyIn_ready (rs := [5, 7]) (by kernel_rfl) (by simp) ?_
            refine AllReadyIn.cons rfl (fun K hK => ?_) (AllReadyIn.cons rfl (fun K hK => ?_) AllReadyIn.nil)
            · go_simp
              refine hK _ _ ?_; clear hK K
              refine wpAnyIn_ready (rs := [6, 7]) (by kernel_rfl) (by simp) ?_
              refine AllReadyIn.cons rfl (fun K hK => ?_) (AllReadyIn.cons rfl (fun K hK => ?_) AllReadyIn.nil)
              · refine step_store rfl 35 (.tmp 19) (.tmp 15) rfl _ rfl 8 g (m * 8) (by kernel_rfl) rfl rfl cur 35 hcur hcsz (vals_one { y.1 with k := kv }) ?_
                refine hK _ _ ?_; clear hK K
                refine wpAnyIn_ready (rs := [7]) (by kernel_rfl) (by simp) ?_
                refine AllReadyIn.cons rfl (fun K hK => ?_) AllReadyIn.nil
                refine step_store rfl 33 (.tmp 5) (.tmp 18) rfl _ rfl 1 (w.heap.size + 2) 0 (by kernel_rfl) rfl rfl _ 33 ((heap_setRow_other _ _ _ _ hBg).trans hv1) (Nat.le_refl 1) (slice_one _ _ _) ?_
                refine hK _ _ ?_; clear hK K
                refine wpAnyIn_done (by kernel_rfl) ?_ _
                obtain ⟨r1, r2, r3⟩ := region_fin (W' := (w1.setRow g (cur.toList.take (m * 8) ++ y.1.vals.toList ++ cur.toList.drop (m * 8 + y.1.vals.toList.length)).toArray).setRow (w.heap.size + 2) #[.slice (some ⟨g, 0, none⟩) (m + 1) cap']) hI hm hyk hv ho hown' hgrow' hsharp hcur rfl rfl rfl (by simp [World.setRow]) (fun b h1 h2 => (heap_setRow_other _ _ _ _ h2).trans (heap_setRow_other _ _ _ _ h1)) ((heap_setRow_other _ _ _ _ (Ne.symm hBg)).trans (setRow_heap _ _ _ _ _ _ hcur)) (setRow_heap _ _ _ _ _ _ ((heap_setRow_other _ _ _ _ hBg).trans hv1))
                simp only [El.vals, hyk] at r1 r2 r3
                exact ⟨r1.from _, r2, r3⟩
              · refine step_store rfl 33 (.tmp 5) (.tmp 18) rfl _ rfl 1 (w.heap.size + 2) 0 (by kernel_rfl) rfl rfl _ 33 hv1 (Nat.le_refl 1) (slice_one _ _ _) ?_
                refine hK _ _ ?_; clear hK K
                refine wpAnyIn_ready (rs := [6]) (by kernel_rfl) (by simp) ?_
                refine AllReadyIn.cons rfl (fun K hK => ?_) AllReadyIn.nil
                refine step_store rfl 35 (.tmp 19) (.tmp 15) rfl _ rfl 8 g (m * 8) (by kernel_rfl) rfl rfl cur 35 ((heap_setRow_other _ _ _ _ (Ne.symm hBg)).trans hcur) hcsz (vals_one { y.1 with k := kv }) ?_
                refine hK _ _ ?_; clear hK K
                refine wpAnyIn_done (by kernel_rfl) ?_ _
                obtain ⟨r1, r2, r3⟩ := region_fin (W' := (w1.setRow (w.heap.size + 2) #[.slice (some ⟨g, 0, none⟩) (m + 1) cap']).setRow g (cur.toList.take (m * 8) ++ y.1.vals.toList ++ cur.toList.drop (m * 8 + y.1.vals.toList.length)).toArray) hI hm hyk hv ho hown' hgrow' hsharp hcur rfl rfl rfl (by simp [World.setRow]) (fun b h1 h2 => (heap_setRow_other _ _ _ _ h1).trans (heap_setRow_other _ _ _ _ h2)) (setRow_heap _ _ _ _ _ _ ((heap_setRow_other _ _ _ _ (Ne.symm hBg)).trans hcur)) ((heap_setRow_other _ _ _ _ hBg).trans (setRow_heap _ _ _ _ _ _ hv1))
                simp only [El.vals, hyk] at r1 r2 r3
                exact ⟨r1.from _, r2, r3⟩
            · refine step_store rfl 33 (.tmp 5) (.tmp 18) rfl _ rfl 1 (w.heap.size + 2) 0 (by kernel_rfl) rfl rfl _ 33 hv1 (Nat.le_refl 1) (slice_one _ _ _) ?_
              refine hK _ _ ?_; clear hK K
              refine wpAnyIn_ready (rs := [5]) (by kernel_rfl) (by simp) ?_
              refine AllReadyIn.cons rfl (fun K hK => ?_) AllReadyIn.nil
              go_simp
              refine hK _ _ ?_; clear hK K
              refine wpAnyIn_ready (rs := [6]) (by kernel_rfl) (by simp) ?_
              refine AllReadyIn.cons rfl (fun K hK => ?_) AllReadyIn.nil
              refine step_store rfl 35 (.tmp 19) (.tmp 15) rfl _ rfl 8 g (m * 8) (by kernel_rfl) rfl rfl cur 35 ((heap_setRow_other _ _ _ _ (Ne.symm hBg)).trans hcur) hcsz (vals_one { y.1 with k := kv }) ?_
              refine hK _ _ ?_; clear hK K
              refine wpAnyIn_done (by kernel_rfl) ?_ _
              obtain ⟨r1, r2, r3⟩ := region_fin (W' := (w1.setRow (w.heap.size + 2) #[.slice (some ⟨g, 0, none⟩) (m + 1) cap']).setRow g (cur.toList.take (m * 8) ++ y.1.vals.toList ++ cur.toList.drop (m * 8 + y.1.vals.toList.length)).toArray) hI hm hyk hv ho hown' hgrow' hsharp hcur rfl rfl rfl (by simp [World.setRow]) (fun b h1 h2 => (heap_setRow_other _ _ _ _ h1).trans (heap_setRow_other _ _ _ _ h2)) (setRow_heap _ _ _ _ _ _ ((heap_setRow_other _ _ _ _ (Ne.symm hBg)).trans hcur)) ((heap_setRow_other _ _ _ _ hBg).trans (setRow_heap _ _ _ _ _ _ hv1))
              simp only [El.vals, hyk] at r1 r2 r3
              exact ⟨r1.from _, r2, r3⟩
          · go_simp
            refine hK _ _ ?_; clear hK K
            refine wpAnyIn_ready (rs := [2]) (by kernel_rfl) (by simp) ?_
            refine AllReadyIn.cons rfl (fun K hK => ?_) AllReadyIn.nil
            go_simp
            refine hK _ _ ?_; clear hK K
            refine wpAnyIn_ready (rs := [4]) (by kernel_rfl) (by simp) ?_
            refine AllReadyIn.cons rfl (fun K hK => ?_) AllReadyIn.nil
            refine step_append_own _ rfl (.tmp 14) (.tmp 17) 33 rfl w.heap.size 35 i0 _ 8 104 Tryz.underlying33 hi1 hi2 hi3 hi4 rfl (by decide) _ m _ rfl hoT ⟨W.heap.size, 0, none⟩ 1 1 zeroEl rfl rfl (zero_cells W) zero_one hb1 hb2 hb3 ?_
            intro v' w1 hown' hgrow' hsharp
            refine hK _ _ ?_; clear hK K
            obtain ⟨g, cap', rfl⟩ := ownsRow_succ hown'
            have hv1 := (hv.kept (grown_alloc_drew W _) (by simp)).kept hgrow' (hv.not_row (by decide) ho)
            have hBg : w.heap.size + 2 ≠ g := fun e => hv1.not_row (by decide) hown' (by rw [e]; rfl)
            obtain ⟨cur, hcur, hcsz⟩ := row_cur hown'
            refine wpAnyIn_ready (rs := [5, 7]) (by kernel_rfl) (by simp) ?_
            refine AllReadyIn.cons rfl (fun K hK => ?_) (AllReadyIn.cons rfl (fun K hK => ?_) AllReadyIn.nil)
            · go_simp
              refine hK _ _ ?_; clear hK K
              refine wpAnyIn_ready (rs := [6, 7]) (by kernel_rfl) (by simp) ?_
              refine AllReadyIn.cons rfl (fun K hK => ?_) (AllReadyIn.cons rfl (fun K hK => ?_) AllReadyIn.nil)
              · refine step_store rfl 35 (.tmp 19) (.tmp 15) rfl _ rfl 8 g (m * 8) (by kernel_rfl) rfl rfl cur 35 hcur hcsz (vals_one { y.1 with k := kv }) ?_
                refine hK _ _ ?_; clear hK K
                refine wpAnyIn_ready (rs := [7]) (by kernel_rfl) (by simp) ?_
                refine AllReadyIn.cons rfl (fun K hK => ?_) AllReadyIn.nil
                refine step_store rfl 33 (.tmp 5) (.tmp 18) rfl _ rfl 1 (w.heap.size + 2) 0 (by kernel_rfl) rfl rfl _ 33 ((heap_setRow_other _ _ _ _ hBg).trans hv1) (Nat.le_refl 1) (slice_one _ _ _) ?_
                refine hK _ _ ?_; clear hK K
                refine wpAnyIn_done (by kernel_rfl) ?_ _
                obtain ⟨r1, r2, r3⟩ := region_fin (W' := (w1.setRow g (cur.toList.take (m * 8) ++ y.1.vals.toList ++ cur.toList.drop (m * 8 + y.1.vals.toList.length)).toArray).setRow (w.heap.size + 2) #[.slice (some ⟨g, 0, none⟩) (m + 1) cap']) hI hm hyk hv ho hown' hgrow' hsharp hcur rfl rfl rfl (by simp [World.setRow]) (fun b h1 h2 => (heap_setRow_other _ _ _ _ h2).trans (heap_setRow_other _ _ _ _ h1)) ((heap_setRow_other _ _ _ _ (Ne.symm hBg)).trans (setRow_heap _ _ _ _ _ _ hcur)) (setRow_heap _ _ _ _ _ _ ((heap_setRow_other _ _ _ _ hBg).trans hv1))
                simp only [El.vals, hyk] at r1 r2 r3
                exact ⟨r1.from _, r2, r3⟩
              · refine step_store rfl 33 (.tmp 5) (.tmp 18) rfl _ rfl 1 (w.heap.size + 2) 0 (by kernel_rfl) rfl rfl _ 33 hv1 (Nat.le_refl 1) (slice_one _ _ _) ?_
                refine hK _ _ ?_; clear hK K
                refine wpAnyIn_ready (rs := [6]) (by kernel_rfl) (by simp) ?_
                refine AllReadyIn.cons rfl (fun K hK => ?_) AllReadyIn.nil
                refine step_store rfl 35 (.tmp 19) (.tmp 15) rfl _ rfl 8 g (m * 8) (by kernel_rfl) rfl rfl cur 35 ((heap_setRow_other _ _ _ _ (Ne.symm hBg)).trans hcur) hcsz (vals_one { y.1 with k := kv }) ?_
                refine hK _ _ ?_; clear hK K
                refine wpAnyIn_done (by kernel_rfl) ?_ _
                obtain ⟨r1, r2, r3⟩ := region_fin (W' := (w1.setRow (w.heap.size + 2) #[.slice (some ⟨g, 0, none⟩) (m + 1) cap']).setRow g (cur.toList.take (m * 8) ++ y.1.vals.toList ++ cur.toList.drop (m * 8 + y.1.vals.toList.length)).toArray) hI hm hyk hv ho hown' hgrow' hsharp hcur rfl rfl rfl (by simp [World.setRow]) (fun b h1 h2 => (heap_setRow_other _ _ _ _ h1).trans (heap_setRow_other _ _ _ _ h2)) (setRow_heap _ _ _ _ _ _ ((heap_setRow_other _ _ _ _ (Ne.symm hBg)).trans hcur)) ((heap_setRow_other _ _ _ _ hBg).trans (setRow_heap _ _ _ _ _ _ hv1))
                simp only [El.vals, hyk] at r1 r2 r3
                exact ⟨r1.from _, r2, r3⟩
            · refine step_store rfl 33 (.tmp 5) (.tmp 18) rfl _ rfl 1 (w.heap.size + 2) 0 (by kernel_rfl) rfl rfl _ 33 hv1 (Nat.le_refl 1) (slice_one _ _ _) ?_
              refine hK _ _ ?_; clear hK K
              refine wpAnyIn_ready (rs := [5]) (by kernel_rfl) (by simp) ?_
              refine AllReadyIn.cons rfl (fun K hK => ?_) AllReadyIn.nil
              go_simp
              refine hK _ _ ?_; clear hK K
              refine wpAnyIn_ready (rs := [6]) (by kernel_rfl) (by simp) ?_
              refine AllReadyIn.cons rfl (fun K hK => ?_) AllReadyIn.nil
              refine step_store rfl 35 (.tmp 19) (.tmp 15) rfl _ rfl 8 g (m * 8) (by kernel_rfl) rfl rfl cur 35 ((heap_setRow_other _ _ _ _ (Ne.symm hBg)).trans hcur) hcsz (vals_one { y.1 with k := kv }) ?_
              refine hK _ _ ?_; clear hK K
              refine wpAnyIn_done (by kernel_rfl) ?_ _
              obtain ⟨r1, r2, r3⟩ := region_fin (W' := (w1.setRow (w.heap.size + 2) #[.slice (some ⟨g, 0, none⟩) (m + 1) cap']).setRow g (cur.toList.take (m * 8) ++ y.1.vals.toList ++ cur.toList.drop (m * 8 + y.1.vals.toList.length)).toArray) hI hm hyk hv ho hown' hgrow' hsharp hcur rfl rfl rfl (by simp [World.setRow]) (fun b h1 h2 => (heap_setRow_other _ _ _ _ h1).trans (heap_setRow_other _ _ _ _ h2)) (setRow_heap _ _ _ _ _ _ ((heap_setRow_other _ _ _ _ (Ne.symm hBg)).trans hcur)) ((heap_setRow_other _ _ _ _ hBg).trans (setRow_heap _ _ _ _ _ _ hv1))
              simp only [El.vals, hyk] at r1 r2 r3
              exact ⟨r1.from _, r2, r3⟩
        · go_simp
          refine hK _ _ ?_; clear hK K
          refine wpAnyIn_ready (rs := [1, 3]) (by kernel_rfl) (by simp) ?_
          refine AllReadyIn.cons rfl (fun K hK => ?_) (AllReadyIn.cons rfl (fun K hK => ?_) AllReadyIn.nil)
          · go_simp
            refine hK _ _ ?_; clear hK K
            refine wpAnyIn_ready (rs := [3]) (by kernel_rfl) (by simp) ?_
            refine AllReadyIn.cons rfl (fun K hK => ?_) AllReadyIn.nil
            go_simp
            refine hK _ _ ?_; clear hK K
            refine wpAnyIn_ready (rs := [4]) (by kernel_rfl) (by simp) ?_
            refine AllReadyIn.cons rfl (fun K hK => ?_) AllReadyIn.nil
            refine step_append_own _ rfl (.tmp 14) (.tmp 17) 33 rfl w.heap.size 35 i0 _ 8 104 Tryz.underlying33 hi1 hi2 hi3 hi4 rfl (by decide) _ m _ rfl hoT ⟨W.heap.size, 0, none⟩ 1 1 zeroEl rfl rfl (zero_cells W) zero_one hb1 hb2 hb3 ?_
            intro v' w1 hown' hgrow' hsharp
            refine hK _ _ ?_; clear hK K
            obtain ⟨g, cap', rfl⟩ := ownsRow_succ hown'
            have hv1 := (hv.kept (grown_alloc_drew W _) (by simp)).kept hgrow' (hv.not_row (by decide) ho)
            have hBg : w.heap.size + 2 ≠ g := fun e => hv1.not_row (by decide) hown' (by rw [e]; rfl)
            obtain ⟨cur, hcur, hcsz⟩ := row_cur hown'
            refine wpAnyIn_ready (rs := [5, 7]) (by kernel_rfl) (by simp) ?_
            refine AllReadyIn.cons rfl (fun K hK => ?_) (AllReadyIn.cons rfl (fun K hK => ?_) AllReadyIn.nil)
            · go_simp
              refine hK _ _ ?_; clear hK K
              refine wpAnyIn_ready (rs := [6, 7]) (by kernel_rfl) (by simp) ?_
              refine AllReadyIn.cons rfl (fun K hK => ?_) (AllReadyIn.cons rfl (fun K hK => ?_) AllReadyIn.nil)
              · refine step_store rfl 35 (.tmp 19) (.tmp 15) rfl _ rfl 8 g (m * 8) (by kernel_rfl) rfl rfl cur 35 hcur hcsz (vals_one { y.1 with k := kv }) ?_
                refine hK _ _ ?_; clear hK K
                refine wpAnyIn_ready (rs := [7]) (by kernel_rfl) (by simp) ?_
                refine AllReadyIn.cons rfl (fun K hK => ?_) AllReadyIn.nil
                refine step_store rfl 33 (.tmp 5) (.tmp 18) rfl _ rfl 1 (w.heap.size + 2) 0 (by kernel_rfl) rfl rfl _ 33 ((heap_setRow_other _ _ _ _ hBg).trans hv1) (Nat.le_refl 1) (slice_one _ _ _) ?_
                refine hK _ _ ?_; clear hK K
                refine wpAnyIn_done (by kernel_rfl) ?_ _
                obtain ⟨r1, r2, r3⟩ := region_fin (W' := (w1.setRow g (cur.toList.take (m * 8) ++ y.1.vals.toList ++ cur.toList.drop (m * 8 + y.1.vals.toList.length)).toArray).setRow (w.heap.size + 2) #[.slice (some ⟨g, 0, none⟩) (m + 1) cap']) hI hm hyk hv ho hown' hgrow' hsharp hcur rfl rfl rfl (by simp [World.setRow]) (fun b h1 h2 => (heap_setRow_other _ _ _ _ h2).trans (heap_setRow_other _ _ _ _ h1)) ((heap_setRow_other _ _ _ _ (Ne.symm hBg)).trans (setRow_heap _ _ _ _ _ _ hcur)) (setRow_heap _ _ _ _ _ _ ((heap_setRow_other _ _ _ _ hBg).trans hv1))
                simp only [El.vals, hyk] at r1 r2 r3
                exact ⟨r1.from _, r2, r3⟩
              · refine step_store rfl 33 (.tmp 5) (.tmp 18) rfl _ rfl 1 (w.heap.size + 2) 0 (by kernel_rfl) rfl rfl _ 33 hv1 (Nat.le_refl 1) (slice_one _ _ _) ?_
                refine hK _ _ ?_; clear hK K
                refine wpAnyIn_ready (rs := [6]) (by kernel_rfl) (by simp) ?_
                refine AllReadyIn.cons rfl (fun K hK => ?_) AllReadyIn.nil
                refine step_store rfl 35 (.tmp 19) (.tmp 15) rfl _ rfl 8 g (m * 8) (by kernel_rfl) rfl rfl cur 35 ((heap_setRow_other _ _ _ _ (Ne.symm hBg)).trans hcur) hcsz (vals_one { y.1 with k := kv }) ?_
                refine hK _ _ ?_; clear hK K
                refine wpAnyIn_done (by kernel_rfl) ?_ _
                obtain ⟨r1, r2, r3⟩ := region_fin (W' := (w1.setRow (w.heap.size + 2) #[.slice (some ⟨g, 0, none⟩) (m + 1) cap']).setRow g (cur.toList.take (m * 8) ++ y.1.vals.toList ++ cur.toList.drop (m * 8 + y.1.vals.toList.length)).toArray) hI hm hyk hv ho hown' hgrow' hsharp hcur rfl rfl rfl (by simp [World.setRow]) (fun b h1 h2 => (heap_setRow_other _ _ _ _ h1).trans (heap_setRow_other _ _ _ _ h2)) (setRow_heap _ _ _ _ _ _ ((heap_setRow_other _ _ _ _ (Ne.symm hBg)).trans hcur)) ((heap_setRow_other _ _ _ _ hBg).trans (setRow_heap _ _ _ _ _ _ hv1))
                simp only [El.vals, hyk] at r1 r2 r3
                exact ⟨r1.from _, r2, r3⟩
            · refine step_store rfl 33 (.tmp 5) (.tmp 18) rfl _ rfl 1 (w.heap.size + 2) 0 (by kernel_rfl) rfl rfl _ 33 hv1 (Nat.le_refl 1) (slice_one _ _ _) ?_
              refine hK _ _ ?_; clear hK K
              refine wpAnyIn_ready (rs := [5]) (by kernel_rfl) (by simp) ?_
              refine AllReadyIn.cons rfl (fun K hK => ?_) AllReadyIn.nil
              go_simp
              refine hK _ _ ?_; clear hK K
              refine wpAnyIn_ready (rs := [6]) (by kernel_rfl) (by simp) ?_
              refine AllReadyIn.cons rfl (fun K hK => ?_) AllReadyIn.nil
              refine step_store rfl 35 (.tmp 19) (.tmp 15) rfl _ rfl 8 g (m * 8) (by kernel_rfl) rfl rfl cur 35 ((heap_setRow_other _ _ _ _ (Ne.symm hBg)).trans hcur) hcsz (vals_one { y.1 with k := kv }) ?_
              refine hK _ _ ?_; clear hK K
              refine wpAnyIn_done (by kernel_rfl) ?_ _
              obtain ⟨r1, r2, r3⟩ := region_fin (W' := (w1.setRow (w.heap.size + 2) #[.slice (some ⟨g, 0, none⟩) (m + 1) cap']).setRow g (cur.toList.take (m * 8) ++ y.1.vals.toList ++ cur.toList.drop (m * 8 + y.1.vals.toList.length)).toArray) hI hm hyk hv ho hown' hgrow' hsharp hcur rfl rfl rfl (by simp [World.setRow]) (fun b h1 h2 => (heap_setRow_other _ _ _ _ h1).trans (heap_setRow_other _ _ _ _ h2)) (setRow_heap _ _ _ _ _ _ ((heap_setRow_other _ _ _ _ (Ne.symm hBg)).trans hcur)) ((heap_setRow_other _ _ _ _ hBg).trans (setRow_heap _ _ _ _ _ _ hv1))
              simp only [El.vals, hyk] at r1 r2 r3
              exact ⟨r1.from _, r2, r3⟩
          · go_simp
            refine hK _ _ ?_; clear hK K
            refine wpAnyIn_ready (rs := [1]) (by kernel_rfl) (by simp) ?_
            refine AllReadyIn.cons rfl (fun K hK => ?_) AllReadyIn.nil
            go_simp
            refine hK _ _ ?_; clear hK K
            refine wpAnyIn_ready (rs := [4]) (by kernel_rfl) (by simp) ?_
            refine AllReadyIn.cons rfl (fun K hK => ?_) AllReadyIn.nil
            refine step_append_own _ rfl (.tmp 14) (.tmp 17) 33 rfl w.heap.size 35 i0 _ 8 104 Tryz.underlying33 hi1 hi2 hi3 hi4 rfl (by decide) _ m _ rfl hoT ⟨W.heap.size, 0, none⟩ 1 1 zeroEl rfl rfl (zero_cells W) zero_one hb1 hb2 hb3 ?_
            intro v' w1 hown' hgrow' hsharp
            refine hK _ _ ?_; clear hK K
            obtain ⟨g, cap', rfl⟩ := ownsRow_succ hown'
            have hv1 := (hv.kept (grown_alloc_drew W _) (by simp)).kept hgrow' (hv.not_row (by decide) ho)
            have hBg : w.heap.size + 2 ≠ g := fun e => hv1.not_row (by decide) hown' (by rw [e]; rfl)
            obtain ⟨cur, hcur, hcsz⟩ := row_cur hown'
            refine wpAnyIn_ready (rs := [5, 7]) (by kernel_rfl) (by simp) ?_
            refine AllReadyIn.cons rfl (fun K hK => ?_) (AllReadyIn.cons rfl (fun K hK => ?_) AllReadyIn.nil)
            · go_simp
              refine hK _ _ ?_; clear hK K
              refine wpAnyIn_ready (rs := [6, 7]) (by kernel_rfl) (by simp) ?_
              refine AllReadyIn.cons rfl (fun K hK => ?_) (AllReadyIn.cons rfl (fun K hK => ?_) AllReadyIn.nil)
              · refine step_store rfl 35 (.tmp 19) (.tmp 15) rfl _ rfl 8 g (m * 8) (by kernel_rfl) rfl rfl cur 35 hcur hcsz (vals_one { y.1 with k := kv }) ?_
                refine hK _ _ ?_; clear hK K
                refine wpAnyIn_ready (rs := [7]) (by kernel_rfl) (by simp) ?_
                refine AllReadyIn.cons rfl (fun K hK => ?_) AllReadyIn.nil
                refine step_store rfl 33 (.tmp 5) (.tmp 18) rfl _ rfl 1 (w.heap.size + 2) 0 (by kernel_rfl) rfl rfl _ 33 ((heap_setRow_other _ _ _ _ hBg).trans hv1) (Nat.le_refl 1) (slice_one _ _ _) ?_
                refine hK _ _ ?_; clear hK K
                refine wpAnyIn_done (by kernel_rfl) ?_ _
                obtain ⟨r1, r2, r3⟩ := region_fin (W' := (w1.setRow g (cur.toList.take (m * 8) ++ y.1.vals.toList ++ cur.toList.drop (m * 8 + y.1.vals.toList.length)).toArray).setRow (w.heap.size + 2) #[.slice (some ⟨g, 0, none⟩) (m + 1) cap']) hI hm hyk hv ho hown' hgrow' hsharp hcur rfl rfl rfl (by simp [World.setRow]) (fun b h1 h2 => (heap_setRow_other _ _ _ _ h2).trans (heap_setRow_other _ _ _ _ h1)) ((heap_setRow_other _ _ _ _ (Ne.symm hBg)).trans (setRow_heap _ _ _ _ _ _ hcur)) (setRow_heap _ _ _ _ _ _ ((heap_setRow_other _ _ _ _ hBg).trans hv1))
                simp only [El.vals, hyk] at r1 r2 r3
                exact ⟨r1.from _, r2, r3⟩
              · refine step_store rfl 33 (.tmp 5) (.tmp 18) rfl _ rfl 1 (w.heap.size + 2) 0 (by kernel_rfl) rfl rfl _ 33 hv1 (Nat.le_refl 1) (slice_one _ _ _) ?_
                refine hK _ _ ?_; clear hK K
                refine wpAnyIn_ready (rs := [6]) (by kernel_rfl) (by simp) ?_
                refine AllReadyIn.cons rfl (fun K hK => ?_) AllReadyIn.nil
                refine step_store rfl 35 (.tmp 19) (.tmp 15) rfl _ rfl 8 g (m * 8) (by kernel_rfl) rfl rfl cur 35 ((heap_setRow_other _ _ _ _ (Ne.symm hBg)).trans hcur) hcsz (vals_one { y.1 with k := kv }) ?_
                refine hK _ _ ?_; clear hK K
                refine wpAnyIn_done (by kernel_rfl) ?_ _
                obtain ⟨r1, r2, r3⟩ := region_fin (W' := (w1.setRow (w.heap.size + 2) #[.slice (some ⟨g, 0, none⟩) (m + 1) cap']).setRow g (cur.toList.take (m * 8) ++ y.1.vals.toList ++ cur.toList.drop (m * 8 + y.1.vals.toList.length)).toArray) hI hm hyk hv ho hown' hgrow' hsharp hcur rfl rfl rfl (by simp [World.setRow]) (fun b h1 h2 => (heap_setRow_other _ _ _ _ h1).trans (heap_setRow_other _ _ _ _ h2)) (setRow_heap _ _ _ _ _ _ ((heap_setRow_other _ _ _ _ (Ne.symm hBg)).trans hcur)) ((heap_setRow_other _ _ _ _ hBg).trans (setRow_heap _ _ _ _ _ _ hv1))
                simp only [El.vals, hyk] at r1 r2 r3
                exact ⟨r1.from _, r2, r3⟩
            · refine step_store rfl 33 (.tmp 5) (.tmp 18) rfl _ rfl 1 (w.heap.size + 2) 0 (by kernel_rfl) rfl rfl _ 33 hv1 (Nat.le_refl 1) (slice_one _ _ _) ?_
              refine hK _ _ ?_; clear hK K
              refine wpAnyIn_ready (rs := [5]) (by kernel_rfl) (by simp) ?_
              refine AllReadyIn.cons rfl (fun K hK => ?_) AllReadyIn.nil
              go_simp
              refine hK _ _ ?_; clear hK K
              refine wpAnyIn_ready (rs := [6]) (by kernel_rfl) (by simp) ?_
              refine AllReadyIn.cons rfl (fun K hK => ?_) AllReadyIn.nil
              refine step_store rfl 35 (.tmp 19) (.tmp 15) rfl _ rfl 8 g (m * 8) (by kernel_rfl) rfl rfl cur 35 ((heap_setRow_other _ _ _ _ (Ne.symm hBg)).trans hcur) hcsz (vals_one { y.1 with k := kv }) ?_
              refine hK _ _ ?_; clear hK K
              refine wpAnyIn_done (by kernel_rfl) ?_ _
              obtain ⟨r1, r2, r3⟩ := region_fin (W' := (w1.setRow (w.heap.size + 2) #[.slice (some ⟨g, 0, none⟩) (m + 1) cap']).setRow g (cur.toList.take (m * 8) ++ y.1.vals.toList ++ cur.toList.drop (m * 8 + y.1.vals.toList.length)).toArray) hI hm hyk hv ho hown' hgrow' hsharp hcur rfl rfl rfl (by simp [World.setRow]) (fun b h1 h2 => (heap_setRow_other _ _ _ _ h1).trans (heap_setRow_other _ _ _ _ h2)) (setRow_heap _ _ _ _ _ _ ((heap_setRow_other _ _ _ _ (Ne.symm hBg)).trans hcur)) ((heap_setRow_other _ _ _ _ hBg).trans (setRow_heap _ _ _ _ _ _ hv1))
              simp only [El.vals, hyk] at r1 r2 r3
              exact ⟨r1.from _, r2, r3⟩
        · go_simp
          refine hK _ _ ?_; clear hK K
          refine wpAnyIn_ready (rs := [1, 2]) (by kernel_rfl) (by simp) ?_
          refine AllReadyIn.cons rfl (fun K hK => ?_) (AllReadyIn.cons rfl (fun K hK => ?_) AllReadyIn.nil)
          · go_simp
            refine hK _ _ ?_; clear hK K
            refine wpAnyIn_ready (rs := [2]) (by kernel_rfl) (by simp) ?_
            refine AllReadyIn.cons rfl (fun K hK => ?_) AllReadyIn.nil
            go_simp
            refine hK _ _ ?_; clear hK K
            refine wpAnyIn_ready (rs := [4]) (by kernel_rfl) (by simp) ?_
            refine AllReadyIn.cons rfl (fun K hK => ?_) AllReadyIn.nil
            refine step_append_own _ rfl (.tmp 14) (.tmp 17) 33 rfl w.heap.size 35 i0 _ 8 104 Tryz.underlying33 hi1 hi2 hi3 hi4 rfl (by decide) _ m _ rfl hoT ⟨W.heap.size, 0, none⟩ 1 1 zeroEl rfl rfl (zero_cells W) zero_one hb1 hb2 hb3 ?_
            intro v' w1 hown' hgrow' hsharp
            refine hK _ _ ?_; clear hK K
            obtain ⟨g, cap', rfl⟩ := ownsRow_succ hown'
            have hv1 := (hv.kept (grown_alloc_drew W _) (by simp)).kept hgrow' (hv.not_row (by decide) ho)
            have hBg : w.heap.size + 2 ≠ g := fun e => hv1.not_row (by decide) hown' (by rw [e]; rfl)
            obtain ⟨cur, hcur, hcsz⟩ := row_cur hown'
            refine wpAnyIn_ready (rs := [5, 7]) (by kernel_rfl) (by simp) ?_
            refine AllReadyIn.cons rfl (fun K hK => ?_) (AllReadyIn.cons rfl (fun K hK => ?_) AllReadyIn.nil)
            · go_simp
              refine hK _ _ ?_; clear hK K
              refine wpAnyIn_ready (rs := [6, 7]) (by kernel_rfl) (by simp) ?_
              refine AllReadyIn.cons rfl (fun K hK => ?_) (AllReadyIn.cons rfl (fun K hK => ?_) AllReadyIn.nil)
              · refine step_store rfl 35 (.tmp 19) (.tmp 15) rfl _ rfl 8 g (m * 8) (by kernel_rfl) rfl rfl cur 35 hcur hcsz (vals_one { y.1 with k := kv }) ?_
                refine hK _ _ ?_; clear hK K
                refine wpAnyIn_ready (rs := [7]) (by kernel_rfl) (by simp) ?_
                refine AllReadyIn.cons rfl (fun K hK => ?_) AllReadyIn.nil
                refine step_store rfl 33 (.tmp 5) (.tmp 18) rfl _ rfl 1 (w.heap.size + 2) 0 (by kernel_rfl) rfl rfl _ 33 ((heap_setRow_other _ _ _ _ hBg).trans hv1) (Nat.le_refl 1) (slice_one _ _ _) ?_
                refine hK _ _ ?_; clear hK K
                refine wpAnyIn_done (by kernel_rfl) ?_ _
                obtain ⟨r1, r2, r3⟩ := region_fin (W' := (w1.setRow g (cur.toList.take (m * 8) ++ y.1.vals.toList ++ cur.toList.drop (m * 8 + y.1.vals.toList.length)).toArray).setRow (w.heap.size + 2) #[.slice (some ⟨g, 0, none⟩) (m + 1) cap']) hI hm hyk hv ho hown' hgrow' hsharp hcur rfl rfl rfl (by simp [World.setRow]) (fun b h1 h2 => (heap_setRow_other _ _ _ _ h2).trans (heap_setRow_other _ _ _ _ h1)) ((heap_setRow_other _ _ _ _ (Ne.symm hBg)).trans (setRow_heap _ _ _ _ _ _ hcur)) (setRow_heap _ _ _ _ _ _ ((heap_setRow_other _ _ _ _ hBg).trans hv1))
                simp only [El.vals, hyk] at r1 r2 r3
                exact ⟨r1.from _, r2, r3⟩
              · refine step_store rfl 33 (.tmp 5) (.tmp 18) rfl _ rfl 1 (w.heap.size + 2) 0 (by kernel_rfl) rfl rfl _ 33 hv1 (Nat.le_refl 1) (slice_one _ _ _) ?_
                refine hK _ _ ?_; clear hK K
                refine wpAnyIn_ready (rs := [6]) (by kernel_rfl) (by simp) ?_
                refine AllReadyIn.cons rfl (fun K hK => ?_) AllReadyIn.nil
                refine step_store rfl 35 (.tmp 19) (.tmp 15) rfl _ rfl 8 g (m * 8) (by kernel_rfl) rfl rfl cur 35 ((heap_setRow_other _ _ _ _ (Ne.symm hBg)).trans hcur) hcsz (vals_one { y.1 with k := kv }) ?_
                refine hK _ _ ?_; clear hK K
                refine wpAnyIn_done (by kernel_rfl) ?_ _
                obtain ⟨r1, r2, r3⟩ := region_fin (W' := (w1.setRow (w.heap.size + 2) #[.slice (some ⟨g, 0, none⟩) (m + 1) cap']).setRow g (cur.toList.take (m * 8) ++ y.1.vals.toList ++ cur.toList.drop (m * 8 + y.1.vals.toList.length)).toArray) hI hm hyk hv ho hown' hgrow' hsharp hcur rfl rfl rfl (by simp [World.setRow]) (fun b h1 h2 => (heap_setRow_other _ _ _ _ h1).trans (heap_setRow_other _ _ _ _ h2)) (setRow_heap _ _ _ _ _ _ ((heap_setRow_other _ _ _ _ (Ne.symm hBg)).trans hcur)) ((heap_setRow_other _ _ _ _ hBg).trans (setRow_heap _ _ _ _ _ _ hv1))
                simp only [El.vals, hyk] at r1 r2 r3
                exact ⟨r1.from _, r2, r3⟩
            · refine step_store rfl 33 (.tmp 5) (.tmp 18) rfl _ rfl 1 (w.heap.size + 2) 0 (by kernel_rfl) rfl rfl _ 33 hv1 (Nat.le_refl 1) (slice_one _ _ _) ?_
              refine hK _ _ ?_; clear hK K
              refine wpAnyIn_ready (rs := [5]) (by kernel_rfl) (by simp) ?_
              refine AllReadyIn.cons rfl (fun K hK => ?_) AllReadyIn.nil
              go_simp
              refine hK _ _ ?_; clear hK K
              refine wpAnyIn_ready (rs := [6]) (by kernel_rfl) (by simp) ?_
              refine AllReadyIn.cons rfl (fun K hK => ?_) AllReadyIn.nil
              refine step_store rfl 35 (.tmp 19) (.tmp 15) rfl _ rfl 8 g (m * 8) (by kernel_rfl) rfl rfl cur 35 ((heap_setRow_other _ _ _ _ (Ne.symm hBg)).trans hcur) hcsz (vals_one { y.1 with k := kv }) ?_
              refine hK _ _ ?_; clear hK K
              refine wpAnyIn_done (by kernel_rfl) ?_ _
              obtain ⟨r1, r2, r3⟩ := region_fin (W' := (w1.setRow (w.heap.size + 2) #[.slice (some ⟨g, 0, none⟩) (m + 1) cap']).setRow g (cur.toList.take (m * 8) ++ y.1.vals.toList ++ cur.toList.drop (m * 8 + y.1.vals.toList.length)).toArray) hI hm hyk hv ho hown' hgrow' hsharp hcur rfl rfl rfl (by simp [World.setRow]) (fun b h1 h2 => (heap_setRow_other _ _ _ _ h1).trans (heap_setRow_other _ _ _ _ h2)) (setRow_heap _ _ _ _ _ _ ((heap_setRow_other _ _ _ _ (Ne.symm hBg)).trans hcur)) ((heap_setRow_other _ _ _ _ hBg).trans (setRow_heap _ _ _ _ _ _ hv1))
              simp only [El.vals, hyk] at r1 r2 r3
              exact ⟨r1.from _, r2, r3⟩
          · go_simp
            refine hK _ _ ?_; clear hK K
            refine wpAnyIn_ready (rs := [1]) (by kernel_rfl) (by simp) ?_
            refine AllReadyIn.cons rfl (fun K hK => ?_) AllReadyIn.nil
            go_simp
            refine hK _ _ ?_; clear hK K
            refine wpAnyIn_ready (rs := [4]) (by kernel_rfl) (by simp) ?_
            refine AllReadyIn.cons rfl (fun K hK => ?_) AllReadyIn.nil
            refine step_append_own _ rfl (.tmp 14) (.tmp 17) 33 rfl w.heap.size 35 i0 _ 8 104 Tryz.underlying33 hi1 hi2 hi3 hi4 rfl (by decide) _ m _ rfl hoT ⟨W.heap.size, 0, none⟩ 1 1 zeroEl rfl rfl (zero_cells W) zero_one hb1 hb2 hb3 ?_
            intro v' w1 hown' hgrow' hsharp
            refine hK _ _ ?_; clear hK K
            obtain ⟨g, cap', rfl⟩ := ownsRow_succ hown'
            have hv1 := (hv.kept (grown_alloc_drew W _) (by simp)).kept hgrow' (hv.not_row (by decide) ho)
            have hBg : w.heap.size + 2 ≠ g := fun e => hv1.not_row (by decide) hown' (by rw [e]; rfl)
            obtain ⟨cur, hcur, hcsz⟩ := row_cur hown'
            refine wpAnyIn_ready (rs := [5, 7]) (by kernel_rfl) (by simp) ?_
            refine AllReadyIn.cons rfl (fun K hK => ?_) (AllReadyIn.cons rfl (fun K hK => ?_) AllReadyIn.nil)
            · go_simp
              refine hK _ _ ?_; clear hK K
              refine wpAnyIn_ready (rs := [6, 7]) (by kernel_rfl) (by simp) ?_
              refine AllReadyIn.cons rfl (fun K hK => ?_) (AllReadyIn.cons rfl (fun K hK => ?_) AllReadyIn.nil)
              · refine step_store rfl 35 (.tmp 19) (.tmp 15) rfl _ rfl 8 g (m * 8) (by kernel_rfl) rfl rfl cur 35 hcur hcsz (vals_one { y.1 with k := kv }) ?_
                refine hK _ _ ?_; clear hK K
                refine wpAnyIn_ready (rs := [7]) (by kernel_rfl) (by simp) ?_
                refine AllReadyIn.cons rfl (fun K hK => ?_) AllReadyIn.nil
                refine step_store rfl 33 (.tmp 5) (.tmp 18) rfl _ rfl 1 (w.heap.size + 2) 0 (by kernel_rfl) rfl rfl _ 33 ((heap_setRow_other _ _ _ _ hBg).trans hv1) (Nat.le_refl 1) (slice_one _ _ _) ?_
                refine hK _ _ ?_; clear hK K
                refine wpAnyIn_done (by kernel_rfl) ?_ _
                obtain ⟨r1, r2, r3⟩ := region_fin (W' := (w1.setRow g (cur.toList.take (m * 8) ++ y.1.vals.toList ++ cur.toList.drop (m * 8 + y.1.vals.toList.length)).toArray).setRow (w.heap.size + 2) #[.slice (some ⟨g, 0, none⟩) (m + 1) cap']) hI hm hyk hv ho hown' hgrow' hsharp hcur rfl rfl rfl (by simp [World.setRow]) (fun b h1 h2 => (heap_setRow_other _ _ _ _ h2).trans (heap_setRow_other _ _ _ _ h1)) ((heap_setRow_other _ _ _ _ (Ne.symm hBg)).trans (setRow_heap _ _ _ _ _ _ hcur)) (setRow_heap _ _ _ _ _ _ ((heap_setRow_other _ _ _ _ hBg).trans hv1))
                simp only [El.vals, hyk] at r1 r2 r3
                exact ⟨r1.from _, r2, r3⟩
              · refine step_store rfl 33 (.tmp 5) (.tmp 18) rfl _ rfl 1 (w.heap.size + 2) 0 (by kernel_rfl) rfl rfl _ 33 hv1 (Nat.le_refl 1) (slice_one _ _ _) ?_
                refine hK _ _ ?_; clear hK K
                refine wpAnyIn_ready (rs := [6]) (by kernel_rfl) (by simp) ?_
                refine AllReadyIn.cons rfl (fun K hK => ?_) AllReadyIn.nil
                refine step_store rfl 35 (.tmp 19) (.tmp 15) rfl _ rfl 8 g (m * 8) (by kernel_rfl) rfl rfl cur 35 ((heap_setRow_other _ _ _ _ (Ne.symm hBg)).trans hcur) hcsz (vals_one { y.1 with k := kv }) ?_
                refine hK _ _ ?_; clear hK K
                refine wpAnyIn_done (by kernel_rfl) ?_ _
                obtain ⟨r1, r2, r3⟩ := region_fin (W' := (w1.setRow (w.heap.size + 2) #[.slice (some ⟨g, 0, none⟩) (m + 1) cap']).setRow g (cur.toList.take (m * 8) ++ y.1.vals.toList ++ cur.toList.drop (m * 8 + y.1.vals.toList.length)).toArray) hI hm hyk hv ho hown' hgrow' hsharp hcur rfl rfl rfl (by simp [World.setRow]) (fun b h1 h2 => (heap_setRow_other _ _ _ _ h1).trans (heap_setRow_other _ _ _ _ h2)) (setRow_heap _ _ _ _ _ _ ((heap_setRow_other _ _ _ _ (Ne.symm hBg)).trans hcur)) ((heap_setRow_other _ _ _ _ hBg).trans (setRow_heap _ _ _ _ _ _ hv1))
                simp only [El.vals, hyk] at r1 r2 r3
                exact ⟨r1.from _, r2, r3⟩
            · refine step_store rfl 33 (.tmp 5) (.tmp 18) rfl _ rfl 1 (w.heap.size + 2) 0 (by kernel_rfl) rfl rfl _ 33 hv1 (Nat.le_refl 1) (slice_one _ _ _) ?_
              refine hK _ _ ?_; clear hK K
              refine wpAnyIn_ready (rs := [5]) (by kernel_rfl) (by simp) ?_
              refine AllReadyIn.cons rfl (fun K hK => ?_) AllReadyIn.nil
              go_simp
              refine hK _ _ ?_; clear hK K
              refine wpAnyIn_ready (rs := [6]) (by kernel_rfl) (by simp) ?_
              refine AllReadyIn.cons rfl (fun K hK => ?_) AllReadyIn.nil
              refine step_store rfl 35 (.tmp 19) (.tmp 15) rfl _ rfl 8 g (m * 8) (by kernel_rfl) rfl rfl cur 35 ((heap_setRow_other _ _ _ _ (Ne.symm hBg)).trans hcur) hcsz (vals_one { y.1 with k := kv }) ?_
              refine hK _ _ ?_; clear hK K
              refine wpAnyIn_done (by kernel_rfl) ?_ _
              obtain ⟨r1, r2, r3⟩ := region_fin (W' := (w1.setRow (w.heap.size + 2) #[.slice (some ⟨g, 0, none⟩) (m + 1) cap']).setRow g (cur.toList.take (m * 8) ++ y.1.vals.toList ++ cur.toList.drop (m * 8 + y.1.vals.toList.length)).toArray) hI hm hyk hv ho hown' hgrow' hsharp hcur rfl rfl rfl (by simp [World.setRow]) (fun b h1 h2 => (heap_setRow_other _ _ _ _ h1).trans (heap_setRow_other _ _ _ _ h2)) (setRow_heap _ _ _ _ _ _ ((heap_setRow_other _ _ _ _ (Ne.symm hBg)).trans hcur)) ((heap_setRow_other _ _ _ _ hBg).trans (setRow_heap _ _ _ _ _ _ hv1))
              simp only [El.vals, hyk] at r1 r2 r3
              exact ⟨r1.from _, r2, r3⟩
      · go_simp
        refine hK _ _ ?_; clear hK K
        refine wpAnyIn_ready (rs := [0, 3]) (by kernel_rfl) (by simp) ?_
        refine AllReadyIn.cons rfl (fun K hK => ?_) (AllReadyIn.cons rfl (fun K hK => ?_) AllReadyIn.nil)
        · go_simp
          refine hK _ _ ?_; clear hK K
          refine wpAnyIn_ready (rs := [2, 3]) (by kernel_rfl) (by simp) ?_
          refine AllReadyIn.cons rfl (fun K hK => ?_) (AllReadyIn.cons rfl (fun K hK => ?_) AllReadyIn.nil)
          · go_simp
            refine hK _ _ ?_; clear hK K
            refine wpAnyIn_ready (rs := [3]) (by kernel_rfl) (by simp) ?_
            refine AllReadyIn.cons rfl (fun K hK => ?_) AllReadyIn.nil
            go_simp
            refine hK _ _ ?_; clear hK K
            refine wpAnyIn_ready (rs := [4]) (by kernel_rfl) (by simp) ?_
            refine AllReadyIn.cons rfl (fun K hK => ?_) AllReadyIn.nil
            refine step_append_own _ rfl (.tmp 14) (.tmp 17) 33 rfl w.heap.size 35 i0 _ 8 104 Tryz.underlying33 hi1 hi2 hi3 hi4 rfl (by decide) _ m _ rfl hoT ⟨W.heap.size, 0, none⟩ 1 1 zeroEl rfl rfl (zero_cells W) zero_one hb1 hb2 hb3 ?_
            intro v' w1 hown' hgrow' hsharp
            refine hK _ _ ?_; clear hK K
            obtain ⟨g, cap', rfl⟩ := ownsRow_succ hown'
            have hv1 := (hv.kept (grown_alloc_drew W _) (by simp)).kept hgrow' (hv.not_row (by decide) ho)
            have hBg : w.heap.size + 2 ≠ g := fun e => hv1.not_row (by decide) hown' (by rw [e]; rfl)
            obtain ⟨cur, hcur, hcsz⟩ := row_cur hown'
            refine wpAnyIn_ready (rs := [5, 7]) (by kernel_rfl) (by simp) ?_
            refine AllReadyIn.cons rfl (fun K hK => ?_) (AllReadyIn.cons rfl (fun K hK => ?_) AllReadyIn.nil)
            · go_simp
              refine hK _ _ ?_; clear hK K
              refine wpAnyIn_ready (rs := [6, 7]) (by kernel_rfl) (by simp) ?_
              refine AllReadyIn.cons rfl (fun K hK => ?_) (AllReadyIn.cons rfl (fun K hK => ?_) AllReadyIn.nil)
              · refine step_store rfl 35 (.tmp 19) (.tmp 15) rfl _ rfl 8 g (m * 8) (by kernel_rfl) rfl rfl cur 35 hcur hcsz (vals_one { y.1 with k := kv }) ?_
                refine hK _ _ ?_; clear hK K
                refine wpAnyIn_ready (rs := [7]) (by kernel_rfl) (by simp) ?_
                refine AllReadyIn.cons rfl (fun K hK => ?_) AllReadyIn.nil
                refine step_store rfl 33 (.tmp 5) (.tmp 18) rfl _ rfl 1 (w.heap.size + 2) 0 (by kernel_rfl) rfl rfl _ 33 ((heap_setRow_other _ _ _ _ hBg).trans hv1) (Nat.le_refl 1) (slice_one _ _ _) ?_
                refine hK _ _ ?_; clear hK K
                refine wpAnyIn_done (by kernel_rfl) ?_ _
                obtain ⟨r1, r2, r3⟩ := region_fin (W' := (w1.setRow g (cur.toList.take (m * 8) ++ y.1.vals.toList ++ cur.toList.drop (m * 8 + y.1.vals.toList.length)).toArray).setRow (w.heap.size + 2) #[.slice (some ⟨g, 0, none⟩) (m + 1) cap']) hI hm hyk hv ho hown' hgrow' hsharp hcur rfl rfl rfl (by simp [World.setRow]) (fun b h1 h2 => (heap_setRow_other _ _ _ _ h2).trans (heap_setRow_other _ _ _ _ h1)) ((heap_setRow_other _ _ _ _ (Ne.symm hBg)).trans (setRow_heap _ _ _ _ _ _ hcur)) (setRow_heap _ _ _ _ _ _ ((heap_setRow_other _ _ _ _ hBg).trans hv1))
                simp only [El.vals, hyk] at r1 r2 r3
                exact ⟨r1.from _, r2, r3⟩
              · refine step_store rfl 33 (.tmp 5) (.tmp 18) rfl _ rfl 1 (w.heap.size + 2) 0 (by kernel_rfl) rfl rfl _ 33 hv1 (Nat.le_refl 1) (slice_one _ _ _) ?_
                refine hK _ _ ?_; clear hK K
                refine wpAnyIn_ready (rs := [6]) (by kernel_rfl) (by simp) ?_
                refine AllReadyIn.cons rfl (fun K hK => ?_) AllReadyIn.nil
                refine step_store rfl 35 (.tmp 19) (.tmp 15) rfl _ rfl 8 g (m * 8) (by kernel_rfl) rfl rfl cur 35 ((heap_setRow_other _ _ _ _ (Ne.symm hBg)).trans hcur) hcsz (vals_one { y.1 with k := kv }) ?_
                refine hK _ _ ?_; clear hK K
                refine wpAnyIn_done (by kernel_rfl) ?_ _
                obtain ⟨r1, r2, r3⟩ := region_fin (W' := (w1.setRow (w.heap.size + 2) #[.slice (some ⟨g, 0, none⟩) (m + 1) cap']).setRow g (cur.toList.take (m * 8) ++ y.1.vals.toList ++ cur.toList.drop (m * 8 + y.1.vals.toList.length)).toArray) hI hm hyk hv ho hown' hgrow' hsharp hcur rfl rfl rfl (by simp [World.setRow]) (fun b h1 h2 => (heap_setRow_other _ _ _ _ h1).trans (heap_setRow_other _ _ _ _ h2)) (setRow_heap _ _ _ _ _ _ ((heap_setRow_other _ _ _ _ (Ne.symm hBg)).trans hcur)) ((heap_setRow_other _ _ _ _ hBg).trans (setRow_heap _ _ _ _ _ _ hv1))
                simp only [El.vals, hyk] at r1 r2 r3
                exact ⟨r1.from _, r2, r3⟩
            · refine step_store rfl 33 (.tmp 5) (.tmp 18) rfl _ rfl 1 (w.heap.size + 2) 0 (by kernel_rfl) rfl rfl _ 33 hv1 (Nat.le_refl 1) (slice_one _ _ _) ?_
              refine hK _ _ ?_; clear hK K
              refine wpAnyIn_ready (rs := [5]) (by kernel_rfl) (by simp) ?_
              refine AllReadyIn.cons rfl (fun K hK => ?_) AllReadyIn.nil
              go_simp
              refine hK _ _ ?_; clear hK K
              refine wpAnyIn_ready (rs := [6]) (by kernel_rfl) (by simp) ?_
              refine AllReadyIn.cons rfl (fun K hK => ?_) AllReadyIn.nil
              refine step_store rfl 35 (.tmp 19) (.tmp 15) rfl _ rfl 8 g (m * 8) (by kernel_rfl) rfl rfl cur 35 ((heap_setRow_other _ _ _ _ (Ne.symm hBg)).trans hcur) hcsz (vals_one { y.1 with k := kv }) ?_
              refine hK _ _ ?_; clear hK K
              refine wpAnyIn_done (by kernel_rfl) ?_ _
              obtain ⟨r1, r2, r3⟩ := region_fin (W' := (w1.setRow (w.heap.size + 2) #[.slice (some ⟨g, 0, none⟩) (m + 1) cap']).setRow g (cur.toList.take (m * 8) ++ y.1.vals.toList ++ cur.toList.drop (m * 8 + y.1.vals.toList.length)).toArray) hI hm hyk hv ho hown' hgrow' hsharp hcur rfl rfl rfl (by simp [World.setRow]) (fun b h1 h2 => (heap_setRow_other _ _ _ _ h1).trans (heap_setRow_other _ _ _ _ h2)) (setRow_heap _ _ _ _ _ _ ((heap_setRow_other _ _ _ _ (Ne.symm hBg)).trans hcur)) ((heap_setRow_other _ _ _ _ hBg).trans (setRow_heap _ _ _ _ _ _ hv1))
              simp only [El.vals, hyk] at r1 r2 r3
              exact ⟨r1.from _, r2, r3⟩
          · go_simp
            refine hK _ _ ?_; clear hK K
            refine wpAnyIn_ready (rs := [2]) (by kernel_rfl) (by simp) ?_
            refine AllReadyIn.cons rfl (fun K hK => ?_) AllReadyIn.nil
            go_simp
            refine hK _ _ ?_; clear hK K
            refine wpAnyIn_ready (rs := [4]) (by kernel_rfl) (by simp) ?_
            refine AllReadyIn.cons rfl (fun K hK => ?_) AllReadyIn.nil
            refine step_append_own _ rfl (.tmp 14) (.tmp 17) 33 rfl w.heap.size 35 i0 _ 8 104 Tryz.underlying33 hi1 hi2 hi3 hi4 rfl (by decide) _ m _ rfl hoT ⟨W.heap.size, 0, none⟩ 1 1 zeroEl rfl rfl (zero_cells W) zero_one hb1 hb2 hb3 ?_
            intro v' w1 hown' hgrow' hsharp
            refine hK _ _ ?_; clear hK K
            obtain ⟨g, cap', rfl⟩ := ownsRow_succ hown'
            have hv1 := (hv.kept (grown_alloc_drew W _) (by simp)).kept hgrow' (hv.not_row (by decide) ho)
            have hBg : w.heap.size + 2 ≠ g := fun e => hv1.not_row (by decide) hown' (by rw [e]; rfl)
            obtain ⟨cur, hcur, hcsz⟩ := row_cur hown'
            refine wpAnyIn_ready (rs := [5, 7]) (by kernel_rfl) (by simp) ?_
            refine AllReadyIn.cons rfl (fun K hK => ?_) (AllReadyIn.cons rfl (fun K hK => ?_) AllReadyIn.nil)
            · go_simp
              refine hK _ _ ?_; clear hK K
              refine wpAnyIn_ready (rs := [6, 7]) (by kernel_rfl) (by simp) ?_
              refine AllReadyIn.cons rfl (fun K hK => ?_) (AllReadyIn.cons rfl (fun K hK => ?_) AllReadyIn.nil)
              · refine step_store rfl 35 (.tmp 19) (.tmp 15) rfl _ rfl 8 g (m * 8) (by kernel_rfl) rfl rfl cur 35 hcur hcsz (vals_one { y.1 with k := kv }) ?_
                refine hK _ _ ?_; clear hK K
                refine wpAnyIn_ready (rs := [7]) (by kernel_rfl) (by simp) ?_
                refine AllReadyIn.cons rfl (fun K hK => ?_) AllReadyIn.nil
                refine step_store rfl 33 (.tmp 5) (.tmp 18) rfl _ rfl 1 (w.heap.size + 2) 0 (by kernel_rfl) rfl rfl _ 33 ((heap_setRow_other _ _ _ _ hBg).trans hv1) (Nat.le_refl 1) (slice_one _ _ _) ?_
                refine hK _ _ ?_; clear hK K
                refine wpAnyIn_done (by kernel_rfl) ?_ _
                obtain ⟨r1, r2, r3⟩ := region_fin (W' := (w1.setRow g (cur.toList.take (m * 8) ++ y.1.vals.toList ++ cur.toList.drop (m * 8 + y.1.vals.toList.length)).toArray).setRow (w.heap.size + 2) #[.slice (some ⟨g, 0, none⟩) (m + 1) cap']) hI hm hyk hv ho hown' hgrow' hsharp hcur rfl rfl rfl (by simp [World.setRow]) (fun b h1 h2 => (heap_setRow_other _ _ _ _ h2).trans (heap_setRow_other _ _ _ _ h1)) ((heap_setRow_other _ _ _ _ (Ne.symm hBg)).trans (setRow_heap _ _ _ _ _ _ hcur)) (setRow_heap _ _ _ _ _ _ ((heap_setRow_other _ _ _ _ hBg).trans hv1))
                simp only [El.vals, hyk] at r1 r2 r3
                exact ⟨r1.from _, r2, r3⟩
              · refine step_store rfl 33 (.tmp 5) (.tmp 18) rfl _ rfl 1 (w.heap.size + 2) 0 (by kernel_rfl) rfl rfl _ 33 hv1 (Nat.le_refl 1) (slice_one _ _ _) ?_
                refine hK _ _ ?_; clear hK K
                refine wpAnyIn_ready (rs := [6]) (by kernel_rfl) (by simp) ?_
                refine AllReadyIn.cons rfl (fun K hK => ?_) AllReadyIn.nil
                refine step_store rfl 35 (.tmp 19) (.tmp 15) rfl _ rfl 8 g (m * 8) (by kernel_rfl) rfl rfl cur 35 ((heap_setRow_other _ _ _ _ (Ne.symm hBg)).trans hcur) hcsz (vals_one { y.1 with k := kv }) ?_
                refine hK _ _ ?_; clear hK K
                refine wpAnyIn_done (by kernel_rfl) ?_ _
                obtain ⟨r1, r2, r3⟩ := region_fin (W' := (w1.setRow (w.heap.size + 2) #[.slice (some ⟨g, 0, none⟩) (m + 1) cap']).setRow g (cur.toList.take (m * 8) ++ y.1.vals.toList ++ cur.toList.drop (m * 8 + y.1.vals.toList.length)).toArray) hI hm hyk hv ho hown' hgrow' hsharp hcur rfl rfl rfl (by simp [World.setRow]) (fun b h1 h2 => (heap_setRow_other _ _ _ _ h1).trans (heap_setRow_other _ _ _ _ h2)) (setRow_heap _ _ _ _ _ _ ((heap_setRow_other _ _ _ _ (Ne.symm hBg)).trans hcur)) ((heap_setRow_other _ _ _ _ hBg).trans (setRow_heap _ _ _ _ _ _ hv1))
                simp only [El.vals, hyk] at r1 r2 r3
                exact ⟨r1.from _, r2, r3⟩
            · refine step_store rfl 33 (.tmp 5) (.tmp 18) rfl _ rfl 1 (w.heap.size + 2) 0 (by kernel_rfl) rfl rfl _ 33 hv1 (Nat.le_refl 1) (slice_one _ _ _) ?_
              refine hK _ _ ?_; clear hK K
              refine wpAnyIn_ready (rs := [5]) (by kernel_rfl) (by simp) ?_
              refine AllReadyIn.cons rfl (fun K hK => ?_) AllReadyIn.nil
              go_simp
              refine hK _ _ ?_; clear hK K
              refine wpAnyIn_ready (rs := [6]) (by kernel_rfl) (by simp) ?_
              refine AllReadyIn.cons rfl (fun K hK => ?_) AllReadyIn.nil
              refine step_store rfl 35 (.tmp 19) (.tmp 15) rfl _ rfl 8 g (m * 8) (by kernel_rfl) rfl rfl cur 35 ((heap_setRow_other _ _ _ _ (Ne.symm hBg)).trans hcur) hcsz (vals_one { y.1 with k := kv }) ?_
              refine hK _ _ ?_; clear hK K
              refine wpAnyIn_done (by kernel_rfl) ?_ _
              obtain ⟨r1, r2, r3⟩ := region_fin (W' := (w1.setRow (w.heap.size + 2) #[.slice (some ⟨g, 0, none⟩) (m + 1) cap']).setRow g (cur.toList.take (m * 8) ++ y.1.vals.toList ++ cur.toList.drop (m * 8 + y.1.vals.toList.length)).toArray) hI hm hyk hv ho hown' hgrow' hsharp hcur rfl rfl rfl (by simp [World.setRow]) (fun b h1 h2 => (heap_setRow_other _ _ _ _ h1).trans (heap_setRow_other _ _ _ _ h2)) (setRow_heap _ _ _ _ _ _ ((heap_setRow_other _ _ _ _ (Ne.symm hBg)).trans hcur)) ((heap_setRow_other _ _ _ _ hBg).trans (setRow_heap _ _ _ _ _ _ hv1))
              simp only [El.vals, hyk] at r1 r2 r3
              exact ⟨r1.from _, r2, r3⟩
        · go_simp
          refine hK _ _ ?_; clear hK K
          refine wpAnyIn_ready (rs := [0]) (by kernel_rfl) (by simp) ?_
          refine AllReadyIn.cons rfl (fun K hK => ?_) AllReadyIn.nil
          go_simp
          refine hK _ _ ?_; clear hK K
          refine wpAnyIn_ready (rs := [2]) (by kernel_rfl) (by simp) ?_
          refine AllReadyIn.cons rfl (fun K hK => ?_) AllReadyIn.nil
          go_simp
          refine hK _ _ ?_; clear hK K
          refine wpAnyIn_ready (rs := [4]) (by kernel_rfl) (by simp) ?_
          refine AllReadyIn.cons rfl (fun K hK => ?_) AllReadyIn.nil
          refine step_append_own _ rfl (.tmp 14) (.tmp 17) 33 rfl w.heap.size 35 i0 _ 8 104 Tryz.underlying33 hi1 hi2 hi3 hi4 rfl (by decide) _ m _ rfl hoT ⟨W.heap.size, 0, none⟩ 1 1 zeroEl rfl rfl (zero_cells W) zero_one hb1 hb2 hb3 ?_
          intro v' w1 hown' hgrow' hsharp
          refine hK _ _ ?_; clear hK K
          obtain ⟨g, cap', rfl⟩ := ownsRow_succ hown'
          have hv1 := (hv.kept (grown_alloc_drew W _) (by simp)).kept hgrow' (hv.not_row (by decide) ho)
          have hBg : w.heap.size + 2 ≠ g := fun e => hv1.not_row (by decide) hown' (by rw [e]; rfl)
          obtain ⟨cur, hcur, hcsz⟩ := row_cur hown'
          refine wpAnyIn_ready (rs := [5, 7]) (by kernel_rfl) (by simp) ?_
          refine AllReadyIn.cons rfl (fun K hK => ?_) (AllReadyIn.cons rfl (fun K hK => ?_) AllReadyIn.nil)
          · go_simp
            refine hK _ _ ?_; clear hK K
            refine wpAnyIn_ready (rs := [6, 7]) (by kernel_rfl) (by simp) ?_
            refine AllReadyIn.cons rfl (fun K hK => ?_) (AllReadyIn.cons rfl (fun K hK => ?_) AllReadyIn.nil)
            · refine step_store rfl 35 (.tmp 19) (.tmp 15) rfl _ rfl 8 g (m * 8) (by kernel_rfl) rfl rfl cur 35 hcur hcsz (vals_one { y.1 with k := kv }) ?_
              refine hK _ _ ?_; clear hK K
              refine wpAnyIn_ready (rs := [7]) (by kernel_rfl) (by simp) ?_
              refine AllReadyIn.cons rfl (fun K hK => ?_) AllReadyIn.nil
              refine step_store rfl 33 (.tmp 5) (.tmp 18) rfl _ rfl 1 (w.heap.size + 2) 0 (by kernel_rfl) rfl rfl _ 33 ((heap_setRow_other _ _ _ _ hBg).trans hv1) (Nat.le_refl 1) (slice_one _ _ _) ?_
              refine hK _ _ ?_; clear hK K
              refine wpAnyIn_done (by kernel_rfl) ?_ _
              obtain ⟨r1, r2, r3⟩ := region_fin (W' := (w1.setRow g (cur.toList.take (m * 8) ++ y.1.vals.toList ++ cur.toList.drop (m * 8 + y.1.vals.toList.length)).toArray).setRow (w.heap.size + 2) #[.slice (some ⟨g, 0, none⟩) (m + 1) cap']) hI hm hyk hv ho hown' hgrow' hsharp hcur rfl rfl rfl (by simp [World.setRow]) (fun b h1 h2 => (heap_setRow_other _ _ _ _ h2).trans (heap_setRow_other _ _ _ _ h1)) ((heap_setRow_other _ _ _ _ (Ne.symm hBg)).trans (setRow_heap _ _ _ _ _ _ hcur)) (setRow_heap _ _ _ _ _ _ ((heap_setRow_other _ _ _ _ hBg).trans hv1))
              simp only [El.vals, hyk] at r1 r2 r3
              exact ⟨r1.from _, r2, r3⟩
            · refine step_store rfl 33 (.tmp 5) (.tmp 18) rfl _ rfl 1 (w.heap.size + 2) 0 (by kernel_rfl) rfl rfl _ 33 hv1 (Nat.le_refl 1) (slice_one _ _ _) ?_
              refine hK _ _ ?_; clear hK K
              refine wpAnyIn_ready (rs := [6]) (by kernel_rfl) (by simp) ?_
              refine AllReadyIn.cons rfl (fun K hK => ?_) AllReadyIn.nil
              refine step_store rfl 35 (.tmp 19) (.tmp 15) rfl _ rfl 8 g (m * 8) (by kernel_rfl) rfl rfl cur 35 ((heap_setRow_other _ _ _ _ (Ne.symm hBg)).trans hcur) hcsz (vals_one { y.1 with k := kv }) ?_
              refine hK _ _ ?_; clear hK K
              refine wpAnyIn_done (by kernel_rfl) ?_ _
              obtain ⟨r1, r2, r3⟩ := region_fin (W' := (w1.setRow (w.heap.size + 2) #[.slice (some ⟨g, 0, none⟩) (m + 1) cap']).setRow g (cur.toList.take (m * 8) ++ y.1.vals.toList ++ cur.toList.drop (m * 8 + y.1.vals.toList.length)).toArray) hI hm hyk hv ho hown' hgrow' hsharp hcur rfl rfl rfl (by simp [World.setRow]) (fun b h1 h2 => (heap_setRow_other _ _ _ _ h1).trans (heap_setRow_other _ _ _ _ h2)) (setRow_heap _ _ _ _ _ _ ((heap_setRow_other _ _ _ _ (Ne.symm hBg)).trans hcur)) ((heap_setRow_other _ _ _ _ hBg).trans (setRow_heap _ _ _ _ _ _ hv1))
              simp only [El.vals, hyk] at r1 r2 r3
              exact ⟨r1.from _, r2, r3⟩
          · refine step_store rfl 33 (.tmp 5) (.tmp 18) rfl _ rfl 1 (w.heap.size + 2) 0 (by kernel_rfl) rfl rfl _ 33 hv1 (Nat.le_refl 1) (slice_one _ _ _) ?_
            refine hK _ _ ?_; clear hK K
            refine wpAnyIn_ready (rs := [5]) (by kernel_rfl) (by simp) ?_
            refine AllReadyIn.cons rfl (fun K hK => ?_) AllReadyIn.nil
            go_simp
            refine hK _ _ ?_; clear hK K
            refine wpAnyIn_ready (rs := [6]) (by kernel_rfl) (by simp) ?_
            refine AllReadyIn.cons rfl (fun K hK => ?_) AllReadyIn.nil
            refine step_store rfl 35 (.tmp 19) (.tmp 15) rfl _ rfl 8 g (m * 8) (by kernel_rfl) rfl rfl cur 35 ((heap_setRow_other _ _ _ _ (Ne.symm hBg)).trans hcur) hcsz (vals_one { y.1 with k := kv }) ?_
            refine hK _ _ ?_; clear hK K
            refine wpAnyIn_done (by kernel_rfl) ?_ _
            obtain ⟨r1, r2, r3⟩ := region_fin (W' := (w1.setRow (w.heap.size + 2) #[.slice (some ⟨g, 0, none⟩) (m + 1) cap']).setRow g (cur.toList.take (m * 8) ++ y.1.vals.toList ++ cur.toList.drop (m * 8 + y.1.vals.toList.length)).toArray) hI hm hyk hv ho hown' hgrow' hsharp hcur rfl rfl rfl (by simp [World.setRow]) (fun b h1 h2 => (heap_setRow_other _ _ _ _ h1).trans (heap_setRow_other _ _ _ _ h2)) (setRow_heap _ _ _ _ _ _ ((heap_setRow_other _ _ _ _ (Ne.symm hBg)).trans hcur)) ((heap_setRow_other _ _ _ _ hBg).trans (setRow_heap _ _ _ _ _ _ hv1))
            simp only [El.vals, hyk] at r1 r2 r3
            exact ⟨r1.from _, r2, r3⟩
      · go_simp
        refine hK _ _ ?_; clear hK K
        refine wpAnyIn_ready (rs := [0, 1]) (by kernel_rfl) (by simp) ?_
        refine AllReadyIn.cons rfl (fun K hK => ?_) (AllReadyIn.cons rfl (fun K hK => ?_) AllReadyIn.nil)
        · go_simp
          refine hK _ _ ?_; clear hK K
          refine wpAnyIn_ready (rs := [1, 2]) (by kernel_rfl) (by simp) ?_
          refine AllReadyIn.cons rfl (fun K hK => ?_) (AllReadyIn.cons rfl (fun K hK => ?_) AllReadyIn.nil)
          · go_simp
            refine hK _ _ ?_; clear hK K
            refine wpAnyIn_ready (rs := [2]) (by kernel_rfl) (by simp) ?_
            refine AllReadyIn.cons rfl (fun K hK => ?_) AllReadyIn.nil
            go_simp
            refine hK _ _ ?_; clear hK K
            refine wpAnyIn_ready (rs := [4]) (by kernel_rfl) (by simp) ?_
            refine AllReadyIn.cons rfl (fun K hK => ?_) AllReadyIn.nil
            refine step_append_own _ rfl (.tmp 14) (.tmp 17) 33 rfl w.heap.size 35 i0 _ 8 104 Tryz.underlying33 hi1 hi2 hi3 hi4 rfl (by decide) _ m _ rfl hoT ⟨W.heap.size, 0, none⟩ 1 1 zeroEl rfl rfl (zero_cells W) zero_one hb1 hb2 hb3 ?_
            intro v' w1 hown' hgrow' hsharp
            refine hK _ _ ?_; clear hK K
            obtain ⟨g, cap', rfl⟩ := ownsRow_succ hown'
            have hv1 := (hv.kept (grown_alloc_drew W _) (by simp)).kept hgrow' (hv.not_row (by decide) ho)
            have hBg : w.heap.size + 2 ≠ g := fun e => hv1.not_row (by decide) hown' (by rw [e]; rfl)
            obtain ⟨cur, hcur, hcsz⟩ := row_cur hown'
            refine wpAnyIn_ready (rs := [5, 7]) (by kernel_rfl) (by simp) ?_
            refine AllReadyIn.cons rfl (fun K hK => ?_) (AllReadyIn.cons rfl (fun K hK => ?_) AllReadyIn.nil)
            · go_simp
              refine hK _ _ ?_; clear hK K
              refine wpAnyIn_ready (rs := [6, 7]) (by kernel_rfl) (by simp) ?_
              refine AllReadyIn.cons rfl (fun K hK => ?_) (AllReadyIn.cons rfl (fun K hK => ?_) AllReadyIn.nil)
              · refine step_store rfl 35 (.tmp 19) (.tmp 15) rfl _ rfl 8 g (m * 8) (by kernel_rfl) rfl rfl cur 35 hcur hcsz (vals_one { y.1 with k := kv }) ?_
                refine hK _ _ ?_; clear hK K
                refine wpAnyIn_ready (rs := [7]) (by kernel_rfl) (by simp) ?_
                refine AllReadyIn.cons rfl (fun K hK => ?_) AllReadyIn.nil
                refine step_store rfl 33 (.tmp 5) (.tmp 18) rfl _ rfl 1 (w.heap.size + 2) 0 (by kernel_rfl) rfl rfl _ 33 ((heap_setRow_other _ _ _ _ hBg).trans hv1) (Nat.le_refl 1) (slice_one _ _ _) ?_
                refine hK _ _ ?_; clear hK K
                refine wpAnyIn_done (by kernel_rfl) ?_ _
                obtain ⟨r1, r2, r3⟩ := region_fin (W' := (w1.setRow g (cur.toList.take (m * 8) ++ y.1.vals.toList ++ cur.toList.drop (m * 8 + y.1.vals.toList.length)).toArray).setRow (w.heap.size + 2) #[.slice (some ⟨g, 0, none⟩) (m + 1) cap']) hI hm hyk hv ho hown' hgrow' hsharp hcur rfl rfl rfl (by simp [World.setRow]) (fun b h1 h2 => (heap_setRow_other _ _ _ _ h2).trans (heap_setRow_other _ _ _ _ h1)) ((heap_setRow_other _ _ _ _ (Ne.symm hBg)).trans (setRow_heap _ _ _ _ _ _ hcur)) (setRow_heap _ _ _ _ _ _ ((heap_setRow_other _ _ _ _ hBg).trans hv1))
                simp only [El.vals, hyk] at r1 r2 r3
                exact ⟨r1.from _, r2, r3⟩
              · refine step_store rfl 33 (.tmp 5) (.tmp 18) rfl _ rfl 1 (w.heap.size + 2) 0 (by kernel_rfl) rfl rfl _ 33 hv1 (Nat.le_refl 1) (slice_one _ _ _) ?_
                refine hK _ _ ?_; clear hK K
                refine wpAnyIn_ready (rs := [6]) (by kernel_rfl) (by simp) ?_
                refine AllReadyIn.cons rfl (fun K hK => ?_) AllReadyIn.nil
                refine step_store rfl 35 (.tmp 19) (.tmp 15) rfl _ rfl 8 g (m * 8) (by kernel_rfl) rfl rfl cur 35 ((heap_setRow_other _ _ _ _ (Ne.symm hBg)).trans hcur) hcsz (vals_one { y.1 with k := kv }) ?_
                refine hK _ _ ?_; clear hK K
                refine wpAnyIn_done (by kernel_rfl) ?_ _
                obtain ⟨r1, r2, r3⟩ := region_fin (W' := (w1.setRow (w.heap.size + 2) #[.slice (some ⟨g, 0, none⟩) (m + 1) cap']).setRow g (cur.toList.take (m * 8) ++ y.1.vals.toList ++ cur.toList.drop (m * 8 + y.1.vals.toList.length)).toArray) hI hm hyk hv ho hown' hgrow' hsharp hcur rfl rfl rfl (by simp [World.setRow]) (fun b h1 h2 => (heap_setRow_other _ _ _ _ h1).trans (heap_setRow_other _ _ _ _ h2)) (setRow_heap _ _ _ _ _ _ ((heap_setRow_other _ _ _ _ (Ne.symm hBg)).trans hcur)) ((heap_setRow_other _ _ _ _ hBg).trans (setRow_heap _ _ _ _ _ _ hv1))
                simp only [El.vals, hyk] at r1 r2 r3
                exact ⟨r1.from _, r2, r3⟩
            · refine step_store rfl 33 (.tmp 5) (.tmp 18) rfl _ rfl 1 (w.heap.size + 2) 0 (by kernel_rfl) rfl rfl _ 33 hv1 (Nat.le_refl 1) (slice_one _ _ _) ?_
              refine hK _ _ ?_; clear hK K
              refine wpAnyIn_ready (rs := [5]) (by kernel_rfl) (by simp) ?_
              refine AllReadyIn.cons rfl (fun K hK => ?_) AllReadyIn.nil
              go_simp
              refine hK _ _ ?_; clear hK K
              refine wpAnyIn_ready (rs := [6]) (by kernel_rfl) (by simp) ?_
              refine AllReadyIn.cons rfl (fun K hK => ?_) AllReadyIn.nil
              refine step_store rfl 35 (.tmp 19) (.tmp 15) rfl _ rfl 8 g (m * 8) (by kernel_rfl) rfl rfl cur 35 ((heap_setRow_other _ _ _ _ (Ne.symm hBg)).trans hcur) hcsz (vals_one { y.1 with k := kv }) ?_
              refine hK _ _ ?_; clear hK K
              refine wpAnyIn_done (by kernel_rfl) ?_ _
              obtain ⟨r1, r2, r3⟩ := region_fin (W' := (w1.setRow (w.heap.size + 2) #[.slice (some ⟨g, 0, none⟩) (m + 1) cap']).setRow g (cur.toList.take (m * 8) ++ y.1.vals.toList ++ cur.toList.drop (m * 8 + y.1.vals.toList.length)).toArray) hI hm hyk hv ho hown' hgrow' hsharp hcur rfl rfl rfl (by simp [World.setRow]) (fun b h1 h2 => (heap_setRow_other _ _ _ _ h1).trans (heap_setRow_other _ _ _ _ h2)) (setRow_heap _ _ _ _ _ _ ((heap_setRow_other _ _ _ _ (Ne.symm hBg)).trans hcur)) ((heap_setRow_other _ _ _ _ hBg).trans (setRow_heap _ _ _ _ _ _ hv1))
              simp only [El.vals, hyk] at r1 r2 r3
              exact ⟨r1.from _, r2, r3⟩
          · go_simp
            refine hK _ _ ?_; clear hK K
            refine wpAnyIn_ready (rs := [1]) (by kernel_rfl) (by simp) ?_
            refine AllReadyIn.cons rfl (fun K hK => ?_) AllReadyIn.nil
            go_simp
            refine hK _ _ ?_; clear hK K
            refine wpAnyIn_ready (rs := [4]) (by kernel_rfl) (by simp) ?_
            refine AllReadyIn.cons rfl (fun K hK => ?_) AllReadyIn.nil
            refine step_append_own _ rfl (.tmp 14) (.tmp 17) 33 rfl w.heap.size 35 i0 _ 8 104 Tryz.underlying33 hi1 hi2 hi3 hi4 rfl (by decide) _ m _ rfl hoT ⟨W.heap.size, 0, none⟩ 1 1 zeroEl rfl rfl (zero_cells W) zero_one hb1 hb2 hb3 ?_
            intro v' w1 hown' hgrow' hsharp
            refine hK _ _ ?_; clear hK K
            obtain ⟨g, cap', rfl⟩ := ownsRow_succ hown'
            have hv1 := (hv.kept (grown_alloc_drew W _) (by simp)).kept hgrow' (hv.not_row (by decide) ho)
            have hBg : w.heap.size + 2 ≠ g := fun e => hv1.not_row (by decide) hown' (by rw [e]; rfl)
            obtain ⟨cur, hcur, hcsz⟩ := row_cur hown'
            refine wpAnyIn_ready (rs := [5, 7]) (by kernel_rfl) (by simp) ?_
            refine AllReadyIn.cons rfl (fun K hK => ?_) (AllReadyIn.cons rfl (fun K hK => ?_) AllReadyIn.nil)
            · go_simp
              refine hK _ _ ?_; clear hK K
              refine wpAnyIn_ready (rs := [6, 7]) (by kernel_rfl) (by simp) ?_
              refine AllReadyIn.cons rfl (fun K hK => ?_) (AllReadyIn.cons rfl (fun K hK => ?_) AllReadyIn.nil)
              · refine step_store rfl 35 (.tmp 19) (.tmp 15) rfl _ rfl 8 g (m * 8) (by kernel_rfl) rfl rfl cur 35 hcur hcsz (vals_one { y.1 with k := kv }) ?_
                refine hK _ _ ?_; clear hK K
                refine wpAnyIn_ready (rs := [7]) (by kernel_rfl) (by simp) ?_
                refine AllReadyIn.cons rfl (fun K hK => ?_) AllReadyIn.nil
                refine step_store rfl 33 (.tmp 5) (.tmp 18) rfl _ rfl 1 (w.heap.size + 2) 0 (by kernel_rfl) rfl rfl _ 33 ((heap_setRow_other _ _ _ _ hBg).trans hv1) (Nat.le_refl 1) (slice_one _ _ _) ?_
                refine hK _ _ ?_; clear hK K
                refine wpAnyIn_done (by kernel_rfl) ?_ _
                obtain ⟨r1, r2, r3⟩ := region_fin (W' := (w1.setRow g (cur.toList.take (m * 8) ++ y.1.vals.toList ++ cur.toList.drop (m * 8 + y.1.vals.toList.length)).toArray).setRow (w.heap.size + 2) #[.slice (some ⟨g, 0, none⟩) (m + 1) cap']) hI hm hyk hv ho hown' hgrow' hsharp hcur rfl rfl rfl (by simp [World.setRow]) (fun b h1 h2 => (heap_setRow_other _ _ _ _ h2).trans (heap_setRow_other _ _ _ _ h1)) ((heap_setRow_other _ _ _ _ (Ne.symm hBg)).trans (setRow_heap _ _ _ _ _ _ hcur)) (setRow_heap _ _ _ _ _ _ ((heap_setRow_other _ _ _ _ hBg).trans hv1))
                simp only [El.vals, hyk] at r1 r2 r3
                exact ⟨r1.from _, r2, r3⟩
              · refine step_store rfl 33 (.tmp 5) (.tmp 18) rfl _ rfl 1 (w.heap.size + 2) 0 (by kernel_rfl) rfl rfl _ 33 hv1 (Nat.le_refl 1) (slice_one _ _ _) ?_
                refine hK _ _ ?_; clear hK K
                refine wpAnyIn_ready (rs := [6]) (by kernel_rfl) (by simp) ?_
                refine AllReadyIn.cons rfl (fun K hK => ?_) AllReadyIn.nil
                refine step_store rfl 35 (.tmp 19) (.tmp 15) rfl _ rfl 8 g (m * 8) (by kernel_rfl) rfl rfl cur 35 ((heap_setRow_other _ _ _ _ (Ne.symm hBg)).trans hcur) hcsz (vals_one { y.1 with k := kv }) ?_
                refine hK _ _ ?_; clear hK K
                refine wpAnyIn_done (by kernel_rfl) ?_ _
                obtain ⟨r1, r2, r3⟩ := region_fin (W' := (w1.setRow (w.heap.size + 2) #[.slice (some ⟨g, 0, none⟩) (m + 1) cap']).setRow g (cur.toList.take (m * 8) ++ y.1.vals.toList ++ cur.toList.drop (m * 8 + y.1.vals.toList.length)).toArray) hI hm hyk hv ho hown' hgrow' hsharp hcur rfl rfl rfl (by simp [World.setRow]) (fun b h1 h2 => (heap_setRow_other _ _ _ _ h1).trans (heap_setRow_other _ _ _ _ h2)) (setRow_heap _ _ _ _ _ _ ((heap_setRow_other _ _ _ _ (Ne.symm hBg)).trans hcur)) ((heap_setRow_other _ _ _ _ hBg).trans (setRow_heap _ _ _ _ _ _ hv1))
                simp only [El.vals, hyk] at r1 r2 r3
                exact ⟨r1.from _, r2, r3⟩
            · refine step_store rfl 33 (.tmp 5) (.tmp 18) rfl _ rfl 1 (w.heap.size + 2) 0 (by kernel_rfl) rfl rfl _ 33 hv1 (Nat.le_refl 1) (slice_one _ _ _) ?_
              refine hK _ _ ?_; clear hK K
              refine wpAnyIn_ready (rs := [5]) (by kernel_rfl) (by simp) ?_
              refine AllReadyIn.cons rfl (fun K hK => ?_) AllReadyIn.nil
              go_simp
              refine hK _ _ ?_; clear hK K
              refine wpAnyIn_ready (rs := [6]) (by kernel_rfl) (by simp) ?_
              refine AllReadyIn.cons rfl (fun K hK => ?_) AllReadyIn.nil
              refine step_store rfl 35 (.tmp 19) (.tmp 15) rfl _ rfl 8 g (m * 8) (by kernel_rfl) rfl rfl cur 35 ((heap_setRow_other _ _ _ _ (Ne.symm hBg)).trans hcur) hcsz (vals_one { y.1 with k := kv }) ?_
              refine hK _ _ ?_; clear hK K
              refine wpAnyIn_done (by kernel_rfl) ?_ _
              obtain ⟨r1, r2, r3⟩ := region_fin (W' := (w1.setRow (w.heap.size + 2) #[.slice (some ⟨g, 0, none⟩) (m + 1) cap']).setRow g (cur.toList.take (m * 8) ++ y.1.vals.toList ++ cur.toList.drop (m * 8 + y.1.vals.toList.length)).toArray) hI hm hyk hv ho hown' hgrow' hsharp hcur rfl rfl rfl (by simp [World.setRow]) (fun b h1 h2 => (heap_setRow_other _ _ _ _ h1).trans (heap_setRow_other _ _ _ _ h2)) (setRow_heap _ _ _ _ _ _ ((heap_setRow_other _ _ _ _ (Ne.symm hBg)).trans hcur)) ((heap_setRow_other _ _ _ _ hBg).trans (setRow_heap _ _ _ _ _ _ hv1))
              simp only [El.vals, hyk] at r1 r2 r3
              exact ⟨r1.from _, r2, r3⟩
        · go_simp
          refine hK _ _ ?_; clear hK K
          refine wpAnyIn_ready (rs := [0]) (by kernel_rfl) (by simp) ?_
          refine AllReadyIn.cons rfl (fun K hK => ?_) AllReadyIn.nil
          go_simp
          refine hK _ _ ?_; clear hK K
          refine wpAnyIn_ready (rs := [2]) (by kernel_rfl) (by simp) ?_
          refine AllReadyIn.cons rfl (fun K hK => ?_) AllReadyIn.nil
          go_simp
          refine hK _ _ ?_; clear hK K
          refine wpAnyIn_ready (rs := [4]) (by kernel_rfl) (by simp) ?_
          refine AllReadyIn.cons rfl (fun K hK => ?_) AllReadyIn.nil
          refine step_append_own _ rfl (.tmp 14) (.tmp 17) 33 rfl w.heap.size 35 i0 _ 8 104 Tryz.underlying33 hi1 hi2 hi3 hi4 rfl (by decide) _ m _ rfl hoT ⟨W.heap.size, 0, none⟩ 1 1 zeroEl rfl rfl (zero_cells W) zero_one hb1 hb2 hb3 ?_
          intro v' w1 hown' hgrow' hsharp
          refine hK _ _ ?_; clear hK K
          obtain ⟨g, cap', rfl⟩ := ownsRow_succ hown'
          have hv1 := (hv.kept (grown_alloc_drew W _) (by simp)).kept hgrow' (hv.not_row (by decide) ho)
          have hBg : w.heap.size + 2 ≠ g := fun e => hv1.not_row (by decide) hown' (by rw [e]; rfl)
          obtain ⟨cur, hcur, hcsz⟩ := row_cur hown'
          refine wpAnyIn_ready (rs := [5, 7]) (by kernel_rfl) (by simp) ?_
          refine AllReadyIn.cons rfl (fun K hK => ?_) (AllReadyIn.cons rfl (fun K hK => ?_) AllReadyIn.nil)
          · go_simp
            refine hK _ _ ?_; clear hK K
            refine wpAnyIn_ready (rs := [6, 7]) (by kernel_rfl) (by simp) ?_
            refine AllReadyIn.cons rfl (fun K hK => ?_) (AllReadyIn.cons rfl (fun K hK => ?_) AllReadyIn.nil)
            · refine step_store rfl 35 (.tmp 19) (.tmp 15) rfl _ rfl 8 g (m * 8) (by kernel_rfl) rfl rfl cur 35 hcur hcsz (vals_one { y.1 with k := kv }) ?_
              refine hK _ _ ?_; clear hK K
              refine wpAnyIn_ready (rs := [7]) (by kernel_rfl) (by simp) ?_
              refine AllReadyIn.cons rfl (fun K hK => ?_) AllReadyIn.nil
              refine step_store rfl 33 (.tmp 5) (.tmp 18) rfl _ rfl 1 (w.heap.size + 2) 0 (by kernel_rfl) rfl rfl _ 33 ((heap_setRow_other _ _ _ _ hBg).trans hv1) (Nat.le_refl 1) (slice_one _ _ _) ?_
              refine hK _ _ ?_; clear hK K
              refine wpAnyIn_done (by kernel_rfl) ?_ _
              obtain ⟨r1, r2, r3⟩ := region_fin (W' := (w1.setRow g (cur.toList.take (m * 8) ++ y.1.vals.toList ++ cur.toList.drop (m * 8 + y.1.vals.toList.length)).toArray).setRow (w.heap.size + 2) #[.slice (some ⟨g, 0, none⟩) (m + 1) cap']) hI hm hyk hv ho hown' hgrow' hsharp hcur rfl rfl rfl (by simp [World.setRow]) (fun b h1 h2 => (heap_setRow_other _ _ _ _ h2).trans (heap_setRow_other _ _ _ _ h1)) ((heap_setRow_other _ _ _ _ (Ne.symm hBg)).trans (setRow_heap _ _ _ _ _ _ hcur)) (setRow_heap _ _ _ _ _ _ ((heap_setRow_other _ _ _ _ hBg).trans hv1))
              simp only [El.vals, hyk] at r1 r2 r3
              exact ⟨r1.from _, r2, r3⟩
            · refine step_store rfl 33 (.tmp 5) (.tmp 18) rfl _ rfl 1 (w.heap.size + 2) 0 (by kernel_rfl) rfl rfl _ 33 hv1 (Nat.le_refl 1) (slice_one _ _ _) ?_
              refine hK _ _ ?_; clear hK K
              refine wpAnyIn_ready (rs := [6]) (by kernel_rfl) (by simp) ?_
              refine AllReadyIn.cons rfl (fun K hK => ?_) AllReadyIn.nil
              refine step_store rfl 35 (.tmp 19) (.tmp 15) rfl _ rfl 8 g (m * 8) (by kernel_rfl) rfl rfl cur 35 ((heap_setRow_other _ _ _ _ (Ne.symm hBg)).trans hcur) hcsz (vals_one { y.1 with k := kv }) ?_
              refine hK _ _ ?_; clear hK K
              refine wpAnyIn_done (by kernel_rfl) ?_ _
              obtain ⟨r1, r2, r3⟩ := region_fin (W' := (w1.setRow (w.heap.size + 2) #[.slice (some ⟨g, 0, none⟩) (m + 1) cap']).setRow g (cur.toList.take (m * 8) ++ y.1.vals.toList ++ cur.toList.drop (m * 8 + y.1.vals.toList.length)).toArray) hI hm hyk hv ho hown' hgrow' hsharp hcur rfl rfl rfl (by simp [World.setRow]) (fun b h1 h2 => (heap_setRow_other _ _ _ _ h1).trans (heap_setRow_other _ _ _ _ h2)) (setRow_heap _ _ _ _ _ _ ((heap_setRow_other _ _ _ _ (Ne.symm hBg)).trans hcur)) ((heap_setRow_other _ _ _ _ hBg).trans (setRow_heap _ _ _ _ _ _ hv1))
              simp only [El.vals, hyk] at r1 r2 r3
              exact ⟨r1.from _, r2, r3⟩
          · refine step_store rfl 33 (.tmp 5) (.tmp 18) rfl _ rfl 1 (w.heap.size + 2) 0 (by kernel_rfl) rfl rfl _ 33 hv1 (Nat.le_refl 1) (slice_one _ _ _) ?_
            refine hK _ _ ?_; clear hK K
            refine wpAnyIn_ready (rs := [5]) (by kernel_rfl) (by simp) ?_
            refine AllReadyIn.cons rfl (fun K hK => ?_) AllReadyIn.nil
            go_simp
            refine hK _ _ ?_; clear hK K
            refine wpAnyIn_ready (rs := [6]) (by kernel_rfl) (by simp) ?_
            refine AllReadyIn.cons rfl (fun K hK => ?_) AllReadyIn.nil
            refine step_store rfl 35 (.tmp 19) (.tmp 15) rfl _ rfl 8 g (m * 8) (by kernel_rfl) rfl rfl cur 35 ((heap_setRow_other _ _ _ _ (Ne.symm hBg)).trans hcur) hcsz (vals_one { y.1 with k := kv }) ?_
            refine hK _ _ ?_; clear hK K
            refine wpAnyIn_done (by kernel_rfl) ?_ _
            obtain ⟨r1, r2, r3⟩ := region_fin (W' := (w1.setRow (w.heap.size + 2) #[.slice (some ⟨g, 0, none⟩) (m + 1) cap']).setRow g (cur.toList.take (m * 8) ++ y.1.vals.toList ++ cur.toList.drop (m * 8 + y.1.vals.toList.length)).toArray) hI hm hyk hv ho hown' hgrow' hsharp hcur rfl rfl rfl (by simp [World.setRow]) (fun b h1 h2 => (heap_setRow_other _ _ _ _ h1).trans (heap_setRow_other _ _ _ _ h2)) (setRow_heap _ _ _ _ _ _ ((heap_setRow_other _ _ _ _ (Ne.symm hBg)).trans hcur)) ((heap_setRow_other _ _ _ _ hBg).trans (setRow_heap _ _ _ _ _ _ hv1))
            simp only [El.vals, hyk] at r1 r2 r3
            exact ⟨r1.from _, r2, r3⟩
    · gi_wp2
      refine ⟨KeepsFrom.refl _ _, Kp.refl _, hI.below, hI.kind, ?_⟩
      rw [selOf_snoc, if_neg hyk, List.append_nil]
      exact hI.out
  case done =>
    rintro D xs W hD hS hI hK
    obtain ⟨v, hv, ho⟩ := hI.out
    obtain ⟨ov, cv, hvf⟩ : ∃ ov cv, v = .slice ov (selOf kv xs).length cv := by
      rcases ho.2 with ⟨rfl, h0⟩ | ⟨g, cap, cur, rfl, _⟩
      · exact ⟨_, _, by rw [h0]⟩
      · exact ⟨_, _, rfl⟩
    subst hvf
    have hv0 := hv.cell
    have hbe := hI.below
    have hsz : w.heap.size ≤ D := by omega
    clear hI
    gi_wp2
    all_goals
      refine ⟨by simp, .inl ⟨_, _, rfl, run_takeDeferred hK, ?_⟩⟩
      refine ⟨_, results_tmp rfl _ _ _, _, rfl, xs, by (first | (rw [if_pos (by assumption)] at hS; exact hS) | (rw [if_neg (by assumption)] at hS; exact hS)), ownsRow_putObj ho _ hK rfl, hbe.trans (belowK_b (w := w) (Nat.le_refl _) W D _ _ hsz hK rfl rfl)⟩
  case stop =>
    rintro D c pre W _ _ h _
    exact h.elim
end Go.Proofs.YtppilomaljgkoaaGreatDoor

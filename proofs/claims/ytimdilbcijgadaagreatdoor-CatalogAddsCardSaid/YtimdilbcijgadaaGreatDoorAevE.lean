/- A deep evaluator for the code of the model, and its soundness: part 5. -/
import Derived.Test.YtimdilbcijgadaaGreatDoorAevD
import Derived.Shelf.SlSortCmp.Whole1
import Derived.Shelf.SlSortCmp.NoneTotal
set_option linter.unusedVariables false
set_option linter.unusedSimpArgs false
section
/- slices.SortFunc on a copy of a slice, at any program, as the evaluator sees it. -/
set_option linter.unusedVariables false
namespace Go.Aev
open Go.Proofs Go.Shelf Go.RowKit Go.Sort

/-! ### one sorted list -/
section
variable {α : Type}

theorem sorted_one {R : α → α → Prop} : ∀ {l m : List α}, l.Perm m → l.Pairwise R → m.Pairwise R → (∀ a ∈ l, ∀ b ∈ l, R a b → R b a → a = b) → l = m
  | [], m, hp, _, _, _ => by have := hp.length_eq; cases m with | nil => rfl | cons => simp at this
  | a :: l, [], hp, _, _, _ => by have := hp.length_eq; simp at this
  | a :: l, b :: m, hp, h1, h2, ha => by
    have hab : a = b := by
      have k1 : a ∈ b :: m := hp.mem_iff.1 (by simp)
      have k2 : b ∈ a :: l := hp.mem_iff.2 (by simp)
      rcases List.mem_cons.1 k1 with rfl | k1
      · rfl
      rcases List.mem_cons.1 k2 with rfl | k2
      · rfl
      exact ha a (by simp) b (by simp [k2]) ((List.pairwise_cons.1 h1).1 b k2) ((List.pairwise_cons.1 h2).1 a k1)
    subst hab
    rw [sorted_one ((List.perm_cons a).1 hp) (List.pairwise_cons.1 h1).2 (List.pairwise_cons.1 h2).2 fun x hx y hy => ha x (by simp [hx]) y (by simp [hy])]

def insBy (c : α → α → Int) (x : α) : List α → List α
  | [] => [x]
  | y :: l => cond (decide (c y x < 0)) (y :: insBy c x l) (x :: y :: l)

def sortBy (c : α → α → Int) : List α → List α
  | [] => []
  | x :: l => insBy c x (sortBy c l)

theorem insBy_perm (c : α → α → Int) (x : α) : ∀ l, (insBy c x l).Perm (x :: l)
  | [] => .refl _
  | y :: l => by
    unfold insBy
    cases decide (c y x < 0) with
    | true => exact ((insBy_perm c x l).cons y).trans (.swap x y l)
    | false => exact .refl _

theorem sortBy_perm (c : α → α → Int) : ∀ l, (sortBy c l).Perm l
  | [] => .refl _
  | x :: l => (insBy_perm c x _).trans ((sortBy_perm c l).cons x)

/-- an order of what is ok -/
structure OrdOk (ok : α → Prop) (c : α → α → Int) : Prop where
  irrefl : ∀ x, ok x → ¬ c x x < 0
  trans : ∀ x y z, ok x → ok y → ok z → c x y < 0 → c y z < 0 → c x z < 0
  ntrans : ∀ x y z, ok x → ok y → ok z → ¬ c x y < 0 → ¬ c y z < 0 → ¬ c x z < 0
  anti : ∀ x y, ok x → ok y → ¬ c x y < 0 → ¬ c y x < 0 → x = y

def Upw (c : α → α → Int) : List α → Prop := List.Pairwise fun a b => ¬ c b a < 0

theorem insBy_up {ok : α → Prop} {c : α → α → Int} (h : OrdOk ok c) (x : α) (hx : ok x) : ∀ l : List α, (∀ y ∈ l, ok y) → Upw c l → Upw c (insBy c x l)
  | [], _, _ => by simp [insBy, Upw]
  | y :: l, hl, hu => by
    have hu' := List.pairwise_cons.1 hu
    unfold insBy
    cases hd : decide (c y x < 0) with
    | true =>
      refine List.pairwise_cons.2 ⟨fun z hz => ?_, insBy_up h x hx l (fun z hz => hl z (by simp [hz])) hu'.2⟩
      rcases List.mem_cons.1 ((insBy_perm c x l).mem_iff.1 hz) with rfl | hz
      · intro hlt
        have h1 : c y z < 0 := of_decide_eq_true hd
        exact h.irrefl z hx (h.trans z y z hx (hl y (by simp)) hx hlt h1)
      · exact hu'.1 z hz
    | false =>
      have h1 : ¬ c y x < 0 := of_decide_eq_false hd
      refine List.pairwise_cons.2 ⟨fun z hz => ?_, hu⟩
      rcases List.mem_cons.1 hz with rfl | hz
      · exact h1
      · exact h.ntrans z y x (hl z (by simp [hz])) (hl y (by simp)) hx (hu'.1 z hz) h1

theorem sortBy_up {ok : α → Prop} {c : α → α → Int} (h : OrdOk ok c) : ∀ l : List α, (∀ y ∈ l, ok y) → Upw c (sortBy c l)
  | [], _ => List.Pairwise.nil
  | x :: l, hl => insBy_up h x (hl x (by simp)) _ (fun y hy => hl y (by simp [(sortBy_perm c l).mem_iff.1 hy])) (sortBy_up h l fun y hy => hl y (by simp [hy]))

theorem sortBy_one {ok : α → Prop} {c : α → α → Int} (h : OrdOk ok c) {l m : List α} (hl : ∀ y ∈ l, ok y) (hp : m.Perm l) (hu : Upw c m) : m = sortBy c l :=
  sorted_one (hp.trans (sortBy_perm c l).symm) hu (sortBy_up h l hl) fun a ha b hb h1 h2 => h.anti a b (hl a (hp.mem_iff.1 ha)) (hl b (hp.mem_iff.1 hb)) h2 h1
end

/-! ### what a comparison does, as the sort asks it -/

theorem cmp_lays {C0 : Cfg} (hC0 : CfgOk C0) (hp0 : ∀ f F, C0.prim f = some F → CallAt C0 f F) (hdr : C0.dr = true) {W : World} {M : Nat → Nat} {f : FuncId} {x y : Dat} {n : Int} (ho : C0.ownArg f = none) (hg : GlobOk C0 W M)
    (h : callL C0 f [.dat x, .dat y] [] = some ([(.dat (.int .i64 n), .none)], [])) {vx vy : Value} (hx : Rep W M x vx) (hy : Rep W M y vy) :
    Calls C0.P f #[vx, vy] W fun e w' => e = .returned (.int .i64 n) ∧ ∃ q os', w' = grow (W.drewN q) os' := by
  refine ((callL_ok hC0 hp0).plain f ho _ [] _ [] h W M [] #[vx, vy] rfl (fun i z v hz hv => ?_) (sigOk_nil C0 W M) hg).mono ?_
  · match i, hz, hv with
    | 0, hz, hv => cases hz; cases hv; exact .dat hx
    | 1, hz, hv => cases hz; cases hv; exact .dat hy
    | i + 2, hz, _ => simp at hz
  · rintro e w' ⟨v, M', sm', rfl, hA, _, us, huv, hul, hres, _⟩
    match us, hul, huv, hres with
    | [u], _, huv, hres =>
      have := (hres 0 _ u rfl rfl).1
      cases this with
      | dat hu =>
      cases hu
      subst huv
      refine ⟨rfl, w'.drawn - W.drawn, w'.heap.extract W.heap.size w'.heap.size, ?_⟩
      have hdrawn := hA.output.2 hdr
      have hheap : w'.heap = W.heap ++ w'.heap.extract W.heap.size w'.heap.size := by
        apply Array.ext_getElem?
        intro k
        rw [Array.getElem?_append]
        split
        · rename_i hk
          exact hA.block k hk touch_nil
        · rename_i hk
          rw [Array.getElem?_extract]
          have := hA.size
          by_cases hlt : k < w'.heap.size
          · rw [if_pos (by omega)]
            congr 1
            omega
          · rw [Array.getElem?_eq_none (by omega), if_neg (by omega)]
      have e1 := hA.os
      have e2 := hA.tape
      have e3 := hA.output.1
      obtain ⟨h1, t1, d1, o1, p1⟩ := w'
      obtain ⟨h2, t2, d2, o2, p2⟩ := W
      simp only at e1 e2 e3 hheap hdrawn
      simp only [grow, World.drewN]
      rw [← hheap, e1, e2, e3]
      congr 1
      omega

theorem GlobOk.mono {C : Cfg} {w w' : World} {M M' : Nat → Nat} (h : GlobOk C w M) (hk : ∀ b, b < w.heap.size → w'.heap[b]? = w.heap[b]? ∧ M' b = M b) : GlobOk C w' M' := by
  have hkeep : Keeps w w' M M' := keeps_of fun b hb _ => ⟨(hk b hb).1, by rw [(hk b hb).2]; exact Nat.le_refl _⟩
  refine ⟨fun i cells hc => (h.glob i cells hc).mono hkeep fun _ _ h => h, fun i o ho => ?_⟩
  obtain ⟨h1, h2⟩ := h.low i o ho
  obtain ⟨h3, h4⟩ := hk i (lt_of_heap h1)
  exact ⟨by rw [h3]; exact h1, by omega⟩

section
variable {α : Type} [Inhabited α]

theorem sortWorld_other (enc : α → Value) (w : World) (blk off m : Nat) (dk : Array α) (os : Array Obj) {k : Nat} (hk : k < w.heap.size) (hne : k ≠ blk) : (sortWorld enc w blk off m dk os).heap[k]? = w.heap[k]? := by
  show ((w.heap.modify blk _) ++ os)[k]? = _
  rw [Array.getElem?_append_left (by simpa using hk), Array.getElem?_modify, if_neg (fun e => hne e.symm)]

theorem sortWorld_row (enc : α → Value) (w : World) (blk off m : Nat) (dk : Array α) (os : Array Obj) {cur : Array Value} {T : TypeId} {fz : Nat × Nat} (h : w.heap[blk]? = some (.cells cur T fz)) :
    (sortWorld enc w blk off m dk os).heap[blk]? = some (.cells (putCells enc off dk cur) T fz) := by
  have hk := lt_of_heap h
  show ((w.heap.modify blk _) ++ os)[blk]? = _
  rw [Array.getElem?_append_left (by simpa using hk), Array.getElem?_modify, if_pos rfl, h]
  rfl

theorem sortWorld_facts (enc : α → Value) (w : World) (blk off m : Nat) (dk : Array α) (os : Array Obj) : (sortWorld enc w blk off m dk os).os = w.os ∧ (sortWorld enc w blk off m dk os).tape = w.tape ∧
    (sortWorld enc w blk off m dk os).output = w.output ∧ w.heap.size ≤ (sortWorld enc w blk off m dk os).heap.size := by
  refine ⟨rfl, rfl, rfl, ?_⟩
  show _ ≤ ((w.heap.modify blk _) ++ os).size
  simp
end

theorem putCells_take {enc : Nat → Value} {d : Array Nat} {cur : Array Value} (h : d.size ≤ cur.size) : (putCells enc 0 d cur).toList.take (d.size * 1) = d.toList.map enc := by
  apply List.ext_getElem?
  intro k
  rw [Nat.mul_one, List.getElem?_take, List.getElem?_map]
  by_cases hk : k < d.size
  · rw [if_pos hk, Array.getElem?_toList, Array.getElem?_toList]
    have hc : k < cur.size := by omega
    simp only [putCells, Array.getElem?_mapIdx, Array.getElem?_eq_getElem hc, Array.getElem?_eq_getElem hk, Option.map_some]
    rw [if_pos ⟨Nat.zero_le _, by omega⟩, Nat.sub_zero, getElem!_pos d k hk]
  · rw [if_neg hk, List.getElem?_eq_none (by simp; omega)]
    rfl

theorem sortfunc_step {C0 : Cfg} {ρ ρ0 : Ren} (L : SlLaysF.n6 C0.P ρ) (L0 : SlLaysF0.n6 C0.P ρ0) (hρ : ρ0.f 6 = ρ.f 6) (hC0 : CfgOk C0) (hp0 : ∀ f F, C0.prim f = some F → CallAt C0 f F) (hdr : C0.dr = true)
    {ok : Dat → Prop} {c : Dat → Dat → Int} (hO : OrdOk ok c) {g : FuncId} (ho : C0.ownArg g = none) (eg : ∀ args w, (callFunc g args).run C0.P w = .ok (.enter g args) w)
    (hcmp : ∀ x y, ok x → ok y → callL C0 g [.dat x, .dat y] [] = some ([(.dat (.int .i64 (c x y)), .none)], []))
    {w w1 : World} {M : Nat → Nat} {xs : List Dat} (hok : ∀ x ∈ xs, ok x) (hlen : xs.length < 4611686018427387904) {v1 : Value} {T : TypeId} {news : List Value} (hown : w1.ownsRow w.heap.size T 1 v1 xs.length news)
    (hbw : Below w.heap.size w w1) (hrep : ∀ (i : Nat) x u, xs[i]? = some x → news[i]? = some u → Rep w M x u) (hg : GlobOk C0 w M) :
    Calls C0.P (ρ.f 6) #[v1, .func (.func g) #[] #[]] w1 fun e w2 => e = .returned (.tuple #[]) ∧ Below w.heap.size w w2 ∧
      ∃ news', w2.ownsRow w.heap.size T 1 v1 xs.length news' ∧ ∀ (i : Nat) x u, (sortBy c xs)[i]? = some x → news'[i]? = some u → Rep w M x u := by
  by_cases h0 : xs.length = 0
  · have : xs = [] := List.eq_nil_of_length_eq_zero h0
    subst this
    obtain ⟨p, cap, rfl⟩ : ∃ p cap, v1 = .slice p 0 cap := by
      rcases hown.2 with ⟨rfl, _⟩ | ⟨g, cap, cur, rfl, _⟩
      · exact ⟨none, 0, rfl⟩
      · exact ⟨_, _, rfl⟩
    rw [← hρ]
    refine (AnyF.slices_SortFunc_none L0 p cap _ w1).mono ?_
    rintro e w2 ⟨rfl, rfl⟩
    exact ⟨rfl, hbw, news, hown, fun i x u hx => by simp [sortBy] at hx⟩
  · obtain ⟨hnl, hrest⟩ := hown
    rcases hrest with ⟨_, hz⟩ | ⟨blk, cap, cur, rfl, hb0, hb1, hnc, hcm, hcs, htake⟩
    · exact absurd hz h0
    have hpos : 0 < xs.length := by omega
    rw [Nat.mul_one] at hnl htake hcs
    let x0 : Dat := xs[0]
    let gx : Nat → Dat := fun i => xs.getD i x0
    have hx0 : ok x0 := hok _ (List.getElem_mem hpos)
    have hgx : ∀ i, ok (gx i) := fun i => by
      show ok (xs.getD i x0)
      rw [List.getD_eq_getElem?_getD]
      cases hi : xs[i]? with
      | none => exact hx0
      | some x => exact hok x (List.mem_of_getElem? hi)
    have hn0 : 0 < news.length := by omega
    let enc : Nat → Value := fun i => news.getD i news[0]
    have hrep0 : Rep w M x0 news[0] := hrep 0 _ _ (List.getElem?_eq_getElem hpos) (List.getElem?_eq_getElem hn0)
    have henc : ∀ i, Rep w M (gx i) (enc i) := fun i => by
      show Rep w M (xs.getD i x0) (news.getD i news[0])
      rw [List.getD_eq_getElem?_getD, List.getD_eq_getElem?_getD]
      rcases Nat.lt_or_ge i xs.length with hi | hi
      · rw [List.getElem?_eq_getElem hi, List.getElem?_eq_getElem (by omega)]
        exact hrep i _ _ (List.getElem?_eq_getElem hi) (List.getElem?_eq_getElem (by omega))
      · rw [List.getElem?_eq_none hi, List.getElem?_eq_none (by omega)]
        exact hrep0
    let cf : Nat → Nat → Int := fun i j => c (gx i) (gx j)
    have hSWO : SWO (ltOf cf) := by
      refine ⟨fun x => decide_eq_false (hO.irrefl _ (hgx x)), fun x y z h1 h2 => decide_eq_true (hO.trans _ _ _ (hgx x) (hgx y) (hgx z) (of_decide_eq_true h1) (of_decide_eq_true h2)),
        fun x y z h1 h2 => decide_eq_false (hO.ntrans _ _ _ (hgx x) (hgx y) (hgx z) (of_decide_eq_false h1) (of_decide_eq_false h2))⟩
    let d : Array Nat := Array.range xs.length
    have hds : d.size = xs.length := by simp [d]
    have hone : OneCell enc := fun i => (henc i).one
    have hcur : ∀ i, i < xs.length → cur[i]? = news[i]? := fun i hi => by
      rw [← htake, List.getElem?_take, if_pos hi, Array.getElem?_toList]
    have hH : Go.Sort.Holds enc w1 blk 0 d := by
      intro j hj
      rw [hds] at hj
      have hdj : d[j]! = j := by rw [getElem!_pos d j (by rw [hds]; exact hj)]; simp [d]
      rw [hdj, Nat.zero_add]
      refine ⟨?_, ?_⟩
      · rw [cell_of_row w1 blk j cur T (0, 0) hb1, hcur j hj]
        show _ = some (news.getD j _)
        rw [List.getD_eq_getElem?_getD, List.getElem?_eq_getElem (by omega)]
        rfl
      · simp [World.frozen?, hb1]
    have hblt := lt_of_heap hb1
    have hcmpL : CmpLays1 C0.P g #[] enc cf blk 0 d.size w1 := by
      intro m os dk hdk x y
      let W := sortWorld enc w1 blk 0 m dk os
      let M1 : Nat → Nat := fun b => if b < w.heap.size then M b else 0
      have hW : ∀ b, b < w.heap.size → W.heap[b]? = w.heap[b]? ∧ M1 b = M b := fun b hb => ⟨by
        rw [sortWorld_other enc w1 blk 0 m dk os (by have := hbw.size; omega) (by omega)]
        exact hbw.block b hb, if_pos hb⟩
      have hkeep : Keeps w W M M1 := keeps_of fun b hb _ => ⟨(hW b hb).1, by rw [(hW b hb).2]; exact Nat.le_refl _⟩
      exact cmp_lays hC0 hp0 hdr ho (hg.mono hW) (hcmp _ _ (hgx x) (hgx y)) ((henc x).mono hkeep) ((henc y).mono hkeep)
    have hcall := Any.slices_SortFunc L enc hone cf hSWO g #[] blk 0 cap d w1 eg hcmpL hH hblt (by rw [hds]; exact hlen)
    rw [hds] at hcall
    refine hcall.mono ?_
    rintro e w2 ⟨rfl, d', m, os, hperm, hsort, rfl⟩
    obtain ⟨f1, f2, f3, f4⟩ := sortWorld_facts enc w1 blk 0 m d' os
    have hd's : d'.size = xs.length := hperm.1.trans hds
    refine ⟨rfl, hbw.trans ⟨f1, f2, f3, f4, fun k hk => sortWorld_other enc w1 blk 0 m d' os (by have := hbw.size; omega) (by omega)⟩, d'.toList.map enc, ⟨by simp [hd's], .inr ⟨blk, cap, _, rfl, hb0, sortWorld_row enc w1 blk 0 m d' os hb1, hnc, hcm, by simp [putCells, hcs], ?_⟩⟩, ?_⟩
    · have := putCells_take (enc := enc) (d := d') (cur := cur) (by omega)
      rw [hd's] at this
      exact this
    · -- the one sorted list
      have hpl : d'.toList.Perm (List.range xs.length) := by
        have h1 := hperm.2.2
        have e1 : d'.extract 0 xs.length = d' := by rw [← hd's]; exact Array.extract_size
        have e2 : d.extract 0 xs.length = d := by rw [← hds]; exact Array.extract_size
        rw [e1, e2] at h1
        simpa [d] using h1
      have hrange : (List.range xs.length).map gx = xs := by
        apply List.ext_getElem?
        intro k
        rw [List.getElem?_map]
        rcases Nat.lt_or_ge k xs.length with hk | hk
        · rw [List.getElem?_range hk, List.getElem?_eq_getElem hk]
          show some (xs.getD k x0) = _
          rw [List.getD_eq_getElem?_getD, List.getElem?_eq_getElem hk]
          rfl
        · rw [List.getElem?_eq_none (by simpa using hk), List.getElem?_eq_none hk]
          rfl
      have hmap : (d'.toList.map gx).Perm xs := by
        have := hpl.map gx
        rwa [hrange] at this
      have hup : Upw c (d'.toList.map gx) := by
        show List.Pairwise _ _
        rw [List.pairwise_iff_getElem]
        intro i j hi hj hij
        simp only [List.length_map, Array.length_toList] at hi hj
        have h1 := hsort i j (Nat.zero_le _) hij (by omega)
        rw [getElem!_pos d' j hj, getElem!_pos d' i hi] at h1
        simp only [List.getElem_map, Array.getElem_toList]
        exact of_decide_eq_false h1
      have heq : d'.toList.map gx = sortBy c xs := sortBy_one hO hok hmap hup
      intro i x u hx hu
      rw [← heq, List.getElem?_map, Option.map_eq_some_iff] at hx
      obtain ⟨k, hk, rfl⟩ := hx
      rw [List.getElem?_map, hk] at hu
      cases hu
      exact henc k

end Go.Aev

end
section
/- Values and rows, as the laws speak of them: how they stand. -/
set_option linter.unusedVariables false
set_option linter.unusedSimpArgs false
namespace Go.Aev

namespace V
/-- may a value be? -/
def ok (k n : Int) (s : ByteArray) : Bool :=
  (decide (k = 0) && decide (n = 0) && decide (s = bs [])) || (decide (k = 1) && (decide (n = 0) || decide (n = 1)) && decide (s = bs [])) ||
  (decide (k = 2) && decide (-9007199254740991 ≤ n) && decide (n ≤ 9007199254740991) && decide (s = bs [])) || (decide (k = 3) && decide (n = 0) && decide ((s.size : Int) ≤ 64))
/-- how two texts stand -/
def cs (a b : ByteArray) : Int := if a.data.toList < b.data.toList then -1 else if a = b then 0 else 1
def ci (a b : Int) : Int := if a < b then -1 else if b < a then 1 else 0
/-- how two values stand -/
def cmp (k n : Int) (s : ByteArray) (k' n' : Int) (s' : ByteArray) : Int :=
  if ci k k' = 0 then (if ci n n' = 0 then cs s s' else ci n n') else ci k k'
def known (k n : Int) (s : ByteArray) (k' n' : Int) (s' : ByteArray) : Bool := !decide (k = 0) && !decide (k' = 0) && ok k n s && ok k' n' s'
def truth (b : Bool) : Int := cond b 1 0
def same (k n : Int) (s : ByteArray) (k' n' : Int) (s' : ByteArray) : Bool := decide (k = k') && (decide (n = n') && (decide (s = s') && true))
def equal (k n : Int) (s : ByteArray) (k' n' : Int) (s' : ByteArray) : Int := cond (known k n s k' n' s') (truth (same k n s k' n' s')) 2
def less (k n : Int) (s : ByteArray) (k' n' : Int) (s' : ByteArray) : Int := cond (known k n s k' n' s') (truth (decide (k = k') && decide (cmp k n s k' n' s' < 0))) 2
def tru (k n : Int) (s : ByteArray) : Int := cond (decide (k = 1) && ok k n s) n 2

theorem cs_self (a : ByteArray) : cs a a = 0 := by simp [cs, List.lt_irrefl]
theorem cs_cases (a b : ByteArray) : (cs a b = -1 ∧ cs b a = 1 ∧ a ≠ b ∧ a.data.toList < b.data.toList) ∨ (cs a b = 0 ∧ a = b) ∨ (cs a b = 1 ∧ cs b a = -1 ∧ a ≠ b ∧ b.data.toList < a.data.toList) := by
  by_cases h : a.data.toList < b.data.toList
  · have h2 : ¬ b.data.toList < a.data.toList := List.lt_asymm h
    have h3 : a ≠ b := fun e => by subst e; exact List.lt_irrefl _ h
    exact Or.inl ⟨by simp [cs, h], by simp [cs, h2, Ne.symm h3], h3, h⟩
  · by_cases he : a = b
    · subst he; exact Or.inr (Or.inl ⟨cs_self a, rfl⟩)
    · have h2 : b.data.toList < a.data.toList := by
        rcases List.le_iff_lt_or_eq.1 (List.not_lt.1 h) with h1 | h1
        · exact h1
        · exact absurd (data_inj h1.symm) he
      exact Or.inr (Or.inr ⟨by simp [cs, h, he], by simp [cs, h2], he, h2⟩)
theorem ci_cases (a b : Int) : (ci a b = -1 ∧ ci b a = 1 ∧ a < b) ∨ (ci a b = 0 ∧ ci b a = 0 ∧ a = b) ∨ (ci a b = 1 ∧ ci b a = -1 ∧ b < a) := by
  unfold ci
  by_cases h1 : a < b
  · have h2 : ¬ b < a := by omega
    simp [h1, h2]
  · by_cases h2 : b < a
    · simp [h1, h2]
    · have : a = b := by omega
      simp [h1, h2, this]
end V

theorem V.cmp_cases (k n : Int) (s : ByteArray) (k' n' : Int) (s' : ByteArray) : (V.cmp k n s k' n' s' = -1 ∧ V.cmp k' n' s' k n s = 1 ∧ V.same k n s k' n' s' = false) ∨ (V.cmp k n s k' n' s' = 0 ∧ V.cmp k' n' s' k n s = 0 ∧ V.same k n s k' n' s' = true) ∨ (V.cmp k n s k' n' s' = 1 ∧ V.cmp k' n' s' k n s = -1 ∧ V.same k n s k' n' s' = false) := by
  unfold V.cmp V.same
  rcases V.ci_cases k k' with ⟨h1, h2, h3⟩ | ⟨h1, h2, h3⟩ | ⟨h1, h2, h3⟩
  · have : k ≠ k' := by omega
    simp [h1, h2, this]
  · subst h3
    rcases V.ci_cases n n' with ⟨h4, h5, h6⟩ | ⟨h4, h5, h6⟩ | ⟨h4, h5, h6⟩
    · have : n ≠ n' := by omega
      simp [h1, h4, h5, this]
    · subst h6
      rcases V.cs_cases s s' with ⟨h7, h8, h9, _⟩ | ⟨h7, h8⟩ | ⟨h7, h8, h9, _⟩
      · simp [h1, h4, h7, h8, h9]
      · subst h8; simp [h1, h4, h7]
      · simp [h1, h4, h7, h8, h9]
    · have : n ≠ n' := by omega
      simp [h1, h4, h5, this]
  · have : k ≠ k' := by omega
    simp [h1, h2, this]
def V.lt (k n : Int) (s : ByteArray) (k' n' : Int) (s' : ByteArray) : Prop := k < k' ∨ (k = k' ∧ (n < n' ∨ (n = n' ∧ s.data.toList < s'.data.toList)))
theorem V.cmp_lt (k n : Int) (s : ByteArray) (k' n' : Int) (s' : ByteArray) : V.cmp k n s k' n' s' = -1 ↔ V.lt k n s k' n' s' := by
  unfold V.cmp V.lt
  rcases V.ci_cases k k' with ⟨h1, h2, h3⟩ | ⟨h1, h2, h3⟩ | ⟨h1, h2, h3⟩
  · simp [h1, h3]
  · subst h3
    rcases V.ci_cases n n' with ⟨h4, h5, h6⟩ | ⟨h4, h5, h6⟩ | ⟨h4, h5, h6⟩
    · simp [h1, h4, h6]
    · subst h6
      rcases V.cs_cases s s' with ⟨h7, h8, h9, h10⟩ | ⟨h7, h8⟩ | ⟨h7, h8, h9, h10⟩
      · simp [h1, h4, h7, h10]
      · subst h8; simp [h1, h4, h7, List.lt_irrefl]
      · have : ¬ s.data.toList < s'.data.toList := List.lt_asymm h10
        simp [h1, h4, h7, this]
    · have : n ≠ n' := by omega
      have h8 : ¬ n < n' := by omega
      simp [h1, h4, this, h8]
  · have : k ≠ k' := by omega
    have h8 : ¬ k < k' := by omega
    simp [h1, this, h8]
theorem V.lt_trans {k n : Int} {s : ByteArray} {k' n' : Int} {s' : ByteArray} {k2 n2 : Int} {s2 : ByteArray} (h1 : V.lt k n s k' n' s') (h2 : V.lt k' n' s' k2 n2 s2) : V.lt k n s k2 n2 s2 := by
  unfold V.lt at *
  rcases h1 with h1 | ⟨rfl, h1 | ⟨rfl, h1⟩⟩ <;> rcases h2 with h2 | ⟨rfl, h2 | ⟨rfl, h2⟩⟩
  · exact Or.inl (by omega)
  · exact Or.inl h1
  · exact Or.inl h1
  · exact Or.inl h2
  · exact Or.inr ⟨rfl, Or.inl (by omega)⟩
  · exact Or.inr ⟨rfl, Or.inl h1⟩
  · exact Or.inl h2
  · exact Or.inr ⟨rfl, Or.inl h2⟩
  · exact Or.inr ⟨rfl, Or.inr ⟨rfl, List.lt_trans h1 h2⟩⟩
theorem V.same_eq {k n : Int} {s : ByteArray} {k' n' : Int} {s' : ByteArray} (h : V.same k n s k' n' s' = true) : k = k' ∧ n = n' ∧ s = s' := by
  unfold V.same at h
  simpa using h

/-- a value -/
structure Vl where
  k : Int
  n : Int
  s : ByteArray
deriving DecidableEq

namespace Vl
def enc (v : Vl) : List Dat := [.int .i64 v.k, .int .i64 v.n, .str v.s]
def cmp (a b : Vl) : Int := V.cmp a.k a.n a.s b.k b.n b.s
def ok (v : Vl) : Bool := V.ok v.k v.n v.s

theorem cmp_cases (a b : Vl) : (cmp a b = -1 ∧ cmp b a = 1 ∧ a ≠ b) ∨ (cmp a b = 0 ∧ cmp b a = 0 ∧ a = b) ∨ (cmp a b = 1 ∧ cmp b a = -1 ∧ a ≠ b) := by
  have hne : V.same a.k a.n a.s b.k b.n b.s = false → a ≠ b := by
    rintro h rfl
    simp [V.same] at h
  rcases V.cmp_cases a.k a.n a.s b.k b.n b.s with ⟨h1, h2, h3⟩ | ⟨h1, h2, h3⟩ | ⟨h1, h2, h3⟩
  · exact .inl ⟨h1, h2, hne h3⟩
  · obtain ⟨e1, e2, e3⟩ := V.same_eq h3
    refine .inr (.inl ⟨h1, h2, ?_⟩)
    cases a; cases b; simp_all
  · exact .inr (.inr ⟨h1, h2, hne h3⟩)

theorem cmp_self (a : Vl) : cmp a a = 0 := by
  rcases cmp_cases a a with ⟨_, _, h⟩ | ⟨h, _, _⟩ | ⟨_, _, h⟩
  · exact absurd rfl h
  · exact h
  · exact absurd rfl h

theorem cmp_trans {a b c : Vl} (h1 : cmp a b = -1) (h2 : cmp b c = -1) : cmp a c = -1 :=
  (V.cmp_lt ..).2 (V.lt_trans ((V.cmp_lt ..).1 h1) ((V.cmp_lt ..).1 h2))
end Vl

theorem vl_cells {β : Type} (v : Vl) (F : Int → Int → ByteArray → Option β) :
    (bif List.length v.enc == 3 then cellAt v.enc 0 fun z9 => Aev.asInt IntKind.i64 z9 fun z10 => cellAt v.enc 1 fun z11 => Aev.asInt IntKind.i64 z11 fun z12 => cellAt v.enc 2 fun z13 => asStr z13 fun z14 => F z10 z12 z14 else none) = F v.k v.n v.s := rfl

theorem elemAt_enc {β : Type} {l : List Vl} {i : Nat} {v : Vl} (h : l[i]? = some v) (F : List Dat → Option β) : elemAt (l.map Vl.enc) (i : Int) F = F v.enc :=
  elemAt_some (by rw [List.getElem?_map, h]; rfl) F

theorem dropv_cons {α : Type} {l : List α} {i : Nat} (h : i < l.length) : ∃ c, l[i]? = some c ∧ l.drop i = c :: l.drop (i + 1) :=
  ⟨l[i], List.getElem?_eq_getElem h, List.drop_eq_getElem_cons h⟩

namespace R
/-- how two rows stand -/
def cmp : List Vl → List Vl → Int
  | [], [] => 0
  | [], _ :: _ => -1
  | _ :: _, [] => 1
  | a :: l, b :: m => if Vl.cmp a b = 0 then cmp l m else Vl.cmp a b

theorem cmp_cases : ∀ a b : List Vl, (cmp a b = -1 ∧ cmp b a = 1 ∧ a ≠ b) ∨ (cmp a b = 0 ∧ cmp b a = 0 ∧ a = b) ∨ (cmp a b = 1 ∧ cmp b a = -1 ∧ a ≠ b)
  | [], [] => .inr (.inl ⟨rfl, rfl, rfl⟩)
  | [], _ :: _ => .inl ⟨rfl, rfl, by simp⟩
  | _ :: _, [] => .inr (.inr ⟨rfl, rfl, by simp⟩)
  | a :: l, b :: m => by
    unfold cmp
    rcases Vl.cmp_cases a b with ⟨h1, h2, h3⟩ | ⟨h1, h2, h3⟩ | ⟨h1, h2, h3⟩
    · left
      rw [h1, h2]
      exact ⟨by simp, by simp, fun e => h3 (List.cons.inj e).1⟩
    · subst h3
      rw [h1, if_pos rfl, if_pos rfl]
      rcases cmp_cases l m with ⟨h4, h5, h6⟩ | ⟨h4, h5, h6⟩ | ⟨h4, h5, h6⟩
      · exact .inl ⟨h4, h5, fun e => h6 (List.cons.inj e).2⟩
      · exact .inr (.inl ⟨h4, h5, by rw [h6]⟩)
      · exact .inr (.inr ⟨h4, h5, fun e => h6 (List.cons.inj e).2⟩)
    · right; right
      rw [h1, h2]
      exact ⟨by simp, by simp, fun e => h3 (List.cons.inj e).1⟩

theorem cmp_trans : ∀ {a b c : List Vl}, cmp a b = -1 → cmp b c = -1 → cmp a c = -1
  | [], [], _, h, _ => by cases h
  | [], _ :: _, [], _, h => by simp [cmp] at h
  | [], _ :: _, _ :: _, _, _ => rfl
  | _ :: _, [], _, h, _ => by simp [cmp] at h
  | _ :: _, _ :: _, [], _, h => by simp [cmp] at h
  | a :: l, b :: m, c :: n, h1, h2 => by
    unfold cmp at h1 h2 ⊢
    rcases Vl.cmp_cases a b with ⟨e1, e2, e3⟩ | ⟨e1, e2, e3⟩ | ⟨e1, e2, e3⟩
    · rcases Vl.cmp_cases b c with ⟨f1, f2, f3⟩ | ⟨f1, f2, f3⟩ | ⟨f1, f2, f3⟩
      · rw [Vl.cmp_trans e1 f1]; rfl
      · subst f3; rw [e1]; rfl
      · rw [f1] at h2; simp at h2
    · subst e3
      rw [e1, if_pos rfl] at h1
      rcases Vl.cmp_cases a c with ⟨f1, f2, f3⟩ | ⟨f1, f2, f3⟩ | ⟨f1, f2, f3⟩
      · rw [f1]; rfl
      · rw [f1, if_pos rfl] at h2 ⊢
        exact cmp_trans h1 h2
      · rw [f1] at h2; simp at h2
    · rw [e1] at h1; simp at h1

theorem cmp_range (a b : List Vl) : cmp a b = -1 ∨ cmp a b = 0 ∨ cmp a b = 1 := by
  rcases cmp_cases a b with ⟨h, _⟩ | ⟨h, _⟩ | ⟨h, _⟩ <;> simp [h]

theorem lt_iff (a b : List Vl) : cmp a b < 0 ↔ cmp a b = -1 := by
  rcases cmp_range a b with h | h | h <;> rw [h] <;> decide

theorem ord : OrdOk (fun _ : List Vl => True) cmp := by
  refine ⟨fun x _ h => ?_, fun x y z _ _ _ h1 h2 => ?_, fun x y z _ _ _ h1 h2 h3 => ?_, fun x y _ _ h1 h2 => ?_⟩
  · rcases cmp_cases x x with ⟨h1, h2, h3⟩ | ⟨h1, _⟩ | ⟨h1, h2, h3⟩
    · exact h3 rfl
    · rw [h1] at h; cases h
    · exact h3 rfl
  · rw [lt_iff] at *
    exact cmp_trans h1 h2
  · rw [lt_iff] at *
    rcases cmp_cases x y with ⟨e1, _, _⟩ | ⟨_, _, rfl⟩ | ⟨_, e1, _⟩
    · exact h1 e1
    · exact h2 h3
    · exact h2 (cmp_trans e1 h3)
  · rw [lt_iff] at *
    rcases cmp_cases x y with ⟨e1, _, _⟩ | ⟨_, _, e⟩ | ⟨_, e1, _⟩
    · exact absurd e1 h1
    · exact e
    · exact absurd e1 h2

/-- a row as the evaluator has it -/
def enc (l : List Vl) : Dat := .sl (l.map Vl.enc)

def decV : List Dat → Option Vl
  | [.int .i64 k, .int .i64 n, .str s] => some ⟨k, n, s⟩
  | _ => none

def decL : List (List Dat) → Option (List Vl)
  | [] => some []
  | e :: r => (decV e).bind fun v => (decL r).map fun l => v :: l

def dec (d : Dat) : Option (List Vl) :=
  match d with
  | .sl es => decL es
  | _ => none

theorem decV_enc {e : List Dat} {v : Vl} (h : decV e = some v) : e = v.enc := by
  unfold decV at h
  split at h
  · cases h; rfl
  · cases h

theorem decL_enc : ∀ {es : List (List Dat)} {l : List Vl}, decL es = some l → es = l.map Vl.enc
  | [], l, h => by cases h; rfl
  | e :: r, l, h => by
    simp only [decL, Option.bind_eq_some_iff, Option.map_eq_some_iff] at h
    obtain ⟨v, hv, m, hm, rfl⟩ := h
    rw [decV_enc hv, decL_enc hm]; rfl

theorem decL_map : ∀ l : List Vl, decL (l.map Vl.enc) = some l
  | [] => rfl
  | v :: l => by simp [decL, decL_map l, decV, Vl.enc]

theorem dec_enc {d : Dat} {l : List Vl} (h : dec d = some l) : d = enc l := by
  unfold dec at h
  split at h
  · rw [decL_enc h]; rfl
  · cases h

theorem dec_map (l : List Vl) : dec (enc l) = some l := decL_map l

def cmpD (x y : Dat) : Int :=
  match dec x, dec y with
  | some a, some b => cmp a b
  | _, _ => 0

/-- rows that may be sorted: of values, not too long -/
def OkD (d : Dat) : Prop := ∃ l : List Vl, l.length ≤ 16777216 ∧ d = enc l

theorem cmpD_enc (a b : List Vl) : cmpD (enc a) (enc b) = cmp a b := by
  unfold cmpD; rw [dec_map, dec_map]

theorem enc_inj {a b : List Vl} (h : enc a = enc b) : a = b := by
  have := congrArg dec h
  rw [dec_map, dec_map] at this
  exact Option.some.inj this

theorem ordD : OrdOk OkD cmpD := by
  refine ⟨?_, ?_, ?_, ?_⟩
  · rintro x ⟨a, _, rfl⟩
    rw [cmpD_enc]; exact ord.irrefl a trivial
  · rintro x y z ⟨a, _, rfl⟩ ⟨b, _, rfl⟩ ⟨c, _, rfl⟩
    rw [cmpD_enc, cmpD_enc, cmpD_enc]; exact ord.trans a b c trivial trivial trivial
  · rintro x y z ⟨a, _, rfl⟩ ⟨b, _, rfl⟩ ⟨c, _, rfl⟩
    rw [cmpD_enc, cmpD_enc, cmpD_enc]; exact ord.ntrans a b c trivial trivial trivial
  · rintro x y ⟨a, _, rfl⟩ ⟨b, _, rfl⟩
    rw [cmpD_enc, cmpD_enc]
    intro h1 h2
    rw [ord.anti a b trivial trivial h1 h2]

theorem insBy_enc (x : List Vl) : ∀ l : List (List Vl), insBy cmpD (enc x) (l.map enc) = (insBy cmp x l).map enc
  | [] => rfl
  | y :: l => by
    simp only [List.map_cons, insBy, cmpD_enc]
    cases decide (cmp y x < 0) with
    | true => simp only [cond_true, List.map_cons, insBy_enc x l]
    | false => rfl

theorem sortBy_enc : ∀ l : List (List Vl), sortBy cmpD (l.map enc) = (sortBy cmp l).map enc
  | [] => rfl
  | x :: l => by simp only [List.map_cons, sortBy, sortBy_enc l, insBy_enc]
end R

/-- rows in order, as the evaluator has them -/
def Sp.rowsOk (es : List (List Dat)) : Bool := es.all fun e => match e with
  | [d] => (match R.dec d with
    | some l => decide (l.length ≤ 16777216)
    | none => false)
  | _ => false
def Sp.sortRows (es : List (List Dat)) : List (List Dat) := (sortBy R.cmpD (es.map fun e => e.headD .nilP)).map fun d => [d]

def sortS : Ent3 := fun a sg γ K => match a, sg with
  | [.dat (.sl es)], [] => cond (Sp.rowsOk es && decide (es.length ≤ 16777216)) (K ([(.dat (.sl (Sp.sortRows es)), .none)], [])) none
  | _, _ => none

theorem sortS_cps : CpsOk sortS := by
  intro a sg γ K q h
  unfold sortS at h
  split at h
  · obtain ⟨h1, h2⟩ := cond_any h
    exact ⟨_, by simp only [sortS, h1, cond_true], h2⟩
  · cases h

theorem rowsOk_iff {es : List (List Dat)} (h : Sp.rowsOk es = true) : ∃ l : List (List Vl), es = l.map (fun x => [R.enc x]) ∧ ∀ x ∈ l, x.length ≤ 16777216 := by
  induction es with
  | nil => exact ⟨[], rfl, fun x hx => by cases hx⟩
  | cons e r ih =>
    simp only [Sp.rowsOk, List.all_cons, Bool.and_eq_true] at h
    obtain ⟨h1, h2⟩ := h
    obtain ⟨l, rfl, hl⟩ := ih h2
    split at h1
    · rename_i d
      split at h1
      · rename_i x hx
        refine ⟨x :: l, by rw [R.dec_enc hx]; rfl, fun y hy => ?_⟩
        rcases List.mem_cons.1 hy with rfl | hy
        · exact of_decide_eq_true h1
        · exact hl y hy
      · cases h1
    · cases h1

theorem sortRows_enc (l : List (List Vl)) : Sp.sortRows (l.map fun x => [R.enc x]) = (sortBy R.cmp l).map fun x => [R.enc x] := by
  unfold Sp.sortRows
  rw [List.map_map, show ((fun e : List Dat => e.headD Dat.nilP) ∘ fun x : List Vl => [R.enc x]) = R.enc from rfl, R.sortBy_enc, List.map_map]
  rfl

theorem rowsOk_enc (l : List (List Vl)) (h : ∀ x ∈ l, x.length ≤ 16777216) : Sp.rowsOk (l.map fun x => [R.enc x]) = true := by
  unfold Sp.rowsOk
  rw [List.all_eq_true]
  intro e he
  obtain ⟨x, hx, rfl⟩ := List.mem_map.1 he
  simp only [R.dec_map]
  exact decide_eq_true (h x hx)

end Go.Aev

end

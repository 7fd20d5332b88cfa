/- The library's functions and those walked by hand, at the whole program's set-up. -/
import Derived.Test.YtppilomaljgkoaaGreatDoorKS
set_option linter.unusedVariables false
set_option linter.unusedSimpArgs false
namespace Go.Proofs.YtppilomaljgkoaaGreatDoor
open Go Go.Aev Go.RowKit Go.Sort
theorem intsOf_some : ∀ {es : List (List Dat)} {zs : List Int}, intsOf es = some zs → es = zs.map iEnc
  | [], zs, h => by cases h; rfl
  | e :: es, zs, h => by
    unfold intsOf at h
    split at h
    next => rename_i he; cases he
    next n r he =>
      cases he
      rw [Option.map_eq_some_iff] at h
      obtain ⟨l, hl, rfl⟩ := h
      rw [intsOf_some hl]
      rfl
    next => cases h
theorem insUp_perm (x : Int) : ∀ l, (insUp x l).Perm (x :: l)
  | [] => .refl _
  | y :: l => by
    unfold insUp
    cases decide (x ≤ y) with
    | true => exact .refl _
    | false => exact ((insUp_perm x l).cons y).trans (.swap x y l)
theorem sortUp_perm : ∀ l, (sortUp l).Perm l
  | [] => .refl _
  | x :: l => (insUp_perm x _).trans ((sortUp_perm l).cons x)
theorem insUp_up (x : Int) : ∀ l : List Int, l.Pairwise (· ≤ ·) → (insUp x l).Pairwise (· ≤ ·)
  | [], _ => by simp [insUp]
  | y :: l, h => by
    unfold insUp
    by_cases hxy : x ≤ y
    · rw [decide_eq_true hxy, cond_true]
      refine .cons (fun z hz => ?_) h
      rcases List.mem_cons.1 hz with rfl | hz
      · exact hxy
      · exact Int.le_trans hxy (List.rel_of_pairwise_cons h hz)
    · rw [decide_eq_false hxy, cond_false]
      refine .cons (fun z hz => ?_) (insUp_up x l (List.pairwise_cons.1 h).2)
      rcases List.mem_cons.1 ((insUp_perm x l).mem_iff.1 hz) with rfl | hz
      · omega
      · exact List.rel_of_pairwise_cons h hz
theorem sortUp_up : ∀ l : List Int, (sortUp l).Pairwise (· ≤ ·)
  | [] => .nil
  | x :: l => insUp_up x _ (sortUp_up l)
theorem sort_eq (zs : List Int) : (zs.mergeSort fun x y => decide (x ≤ y)) = sortUp zs := by
  have h1 := List.mergeSort_perm zs fun x y => decide (x ≤ y)
  have h2 : (zs.mergeSort fun x y => decide (x ≤ y)).Pairwise (· ≤ ·) := by
    have := List.pairwise_mergeSort (le := fun x y : Int => decide (x ≤ y)) (fun a b c h1 h2 => by simp only [decide_eq_true_eq] at *; omega) (fun a b => by simp only [Bool.or_eq_true, decide_eq_true_eq]; omega) zs
    exact this.imp fun h => by simpa using h
  exact (h1.trans (sortUp_perm zs).symm).eq_of_pairwise (fun a b _ _ h3 h4 => Int.le_antisymm h3 h4) h2 (sortUp_up zs)
theorem usesP (p : Par) {C : Cfg} (hP : C.P = Tryz.prog) (hd : C.dr = false) (hgl : ∀ w M, GlobOk C w M → GlobOk (cfgY p) w M) : CallAt C 21 usesF := by
  intro args sg rs sg' h w M sm vs hl hr hs hg
  unfold usesF at h
  split at h
  case h_2 => cases h
  rename_i k n vk vn vs' tab col l
  rw [Option.map_eq_some_iff] at h
  obtain ⟨r, hres, h⟩ := h
  cases h
  unfold usesRes at hres
  rw [Option.bind_eq_some_iff] at hres
  obtain ⟨es, hes, hres⟩ := hres
  rw [Option.bind_eq_some_iff] at hres
  obtain ⟨zs, hzs, hres⟩ := hres
  obtain ⟨hlen, hres⟩ := cond_any hres
  cases hres
  have hlen : zs.length ≤ 1000000 := of_decide_eq_true hlen
  have hee := intsOf_some hzs
  have hsm : sm = [] := List.eq_nil_of_length_eq_zero hs.1.symm
  subst hsm
  obtain ⟨s', ht, hsl, H⟩ := upre_run p hes
  rw [hP]
  refine calls_of_wp Tryz.func21 ubody ?_
  refine H w M _ URS _ w (fun a' w' hD => ?_) (inv_enter (C := cfgY p) (X := noX) none 23 hl rfl hr (sigOk_nil _ _ _) (hgl w M hg) (fun _ _ _ => rfl) (.inl rfl) (fun z v hz => by cases hz))
  obtain ⟨g, hI⟩ := hD
  have hsz : a'.tmps.size = 23 := hI.tsize.trans hsl
  have hv : a'.tmps[3]? = some a'.tmps[3] := Array.getElem?_eq_getElem (by omega)
  generalize a'.tmps[3] = v3 at hv
  obtain ⟨hrep, hog, hrow⟩ := hI.tm 3 _ v3 ht hv
  have hrep := hrep.dat_inv
  have hes0 : es.length = zs.length := by rw [hee, List.length_map]
  have hri : RowInts w' w.heap.size v3 zs := by
    rcases hrow with ⟨a, m, rfl, hst⟩ | ⟨b, m, cap, cur, T, rfl, e2, e3, e4, e5, e6, e7, e8⟩
    · have hm := hst rfl
      subst hm
      have : es.length = 0 := by
        cases hrep with
        | nilS => rfl
        | sl ws hn => exact hn
      exact .inl ⟨a, rfl, List.eq_nil_of_length_eq_zero (by omega)⟩
    · cases hrep with
      | sl ws hn hc hm hs' he hcell hr' =>
        rename_i size
        have hnz : m = zs.length := by omega
        subst hnz
        refine .inr ⟨b, cap, cur, T, rfl, ?_, e2, e3, e4, by omega, fun i x hx => ?_⟩
        · rcases e8 with e8 | e8
          · exact e8
          · rw [hI.low.2.2.2] at e8; cases e8
        · have hi : i < zs.length := (List.getElem?_eq_some_iff.1 hx).1
          have hei : es[i]? = some (iEnc x) := by rw [hee, List.getElem?_map, hx]; rfl
          have hs1 : size = 1 := (he _ (List.mem_of_getElem? hei)).symm
          subst hs1
          have h1 := (hcell (i * 1 + 0) (by omega)).1
          have h2 := hr' i 0 _ (.int .i64 x) hei rfl
          rw [add_eq rfl] at h1
          simp only [Nat.mul_one, Nat.add_zero, Nat.zero_add] at h1 h2
          rw [cell_of_row w' b i cur T (0, 0) e2] at h1
          generalize ws i = u at h1 h2
          cases h2
          exact h1
  have hb0 : Below w.heap.size w w' := ⟨hI.os, hI.tape, hI.output.1, hI.hsize, fun b hb => hI.frame b hb touch_nil rfl⟩
  refine urs_walk w' hri (by omega) (fun u w2 hb hru => ?_) a' hsz hv hI.defers
  rw [sort_eq] at hru
  have hbb : Below w.heap.size w w2 := hb0.trans hb
  rcases hru with ⟨a, rfl, hx⟩ | ⟨b, cap, cur, T, rfl, hbase, hheap, hnc, hcm, hcs, hcells⟩
  · have hx' : usesOf zs = [] := hx
    rw [hx']
    refine ⟨_, M, [], rfl, after_below hd hbb, sigOk_nil C w2 M, [_], rfl, rfl, fun i e u he hu => ?_, fun i j e e' t t' n n' he he' h h' => ?_⟩
    · cases i with
      | zero =>
        simp only [List.getElem?_cons_zero, Option.some.injEq] at he hu
        subst he hu
        refine ⟨.dat ?_, trivial⟩
        cases a with
        | none => exact .nilS
        | some ad => exact .sl (size := 1) (fun _ => undef) rfl (Nat.zero_le _) (Nat.zero_le _) (fun h => by omega) (fun e he => by cases he) (fun k hk => by omega) (fun i j e d he => by simp at he)
      | succ i => simp at he
    · cases i with
      | zero =>
        simp only [List.getElem?_cons_zero, Option.some.injEq] at he
        subst he
        cases h
      | succ i => simp at he
  · have hown : w2.ownsRow w.heap.size T 1 (.slice (some ⟨b, 0, none⟩) (usesOf zs).length cap) ((usesOf zs).map iEnc).length ((usesOf zs).map (Value.int .i64)) := by
      rw [List.length_map]
      refine ⟨by simp, .inr ⟨b, cap, cur, rfl, hbase, hheap, hnc, hcm, by omega, ?_⟩⟩
      apply List.ext_getElem?
      intro i
      rw [Nat.mul_one, List.getElem?_take, List.getElem?_map, Array.getElem?_toList]
      by_cases hi : i < (usesOf zs).length
      · rw [if_pos hi, List.getElem?_eq_getElem hi]
        exact hcells i _ (List.getElem?_eq_getElem hi)
      · rw [if_neg hi, List.getElem?_eq_none (by omega)]
        rfl
    refine own_out hd (.inl rfl) (fun e he => ?_) (fun i j e d he hj u hu => ?_) hown hbb
    · obtain ⟨x, _, rfl⟩ := List.mem_map.1 he
      rfl
    · rw [List.getElem?_map, Option.map_eq_some_iff] at he
      obtain ⟨x, hx, rfl⟩ := he
      cases j with
      | zero =>
        cases hj
        rw [Nat.mul_one, Nat.add_zero, List.getElem?_map, hx] at hu
        cases hu
        exact .int _ _
      | succ j => simp [iEnc] at hj
theorem prim_ok (p : Par) : ∀ f F, (cfg p).prim f = some F → CallAt (cfg p) f F := by
  intro f F h
  have h : primT p f = some F := h
  unfold primT at h
  exact prim_step (splitP rfl rfl (globC p)) (prim_step (kindsP p rfl rfl (globC p)) (prim_step (numberP p rfl rfl (globC p)) (prim_step (usesP p rfl rfl (fun w M h => ⟨h.glob, h.low⟩)) (fun h => by cases h)))) h
end Go.Proofs.YtppilomaljgkoaaGreatDoor

/- The sort of rows, as the evaluator sees it. -/
import Derived.Test.YtimdilbcijgadaaGreatDoorKD
import Derived.OwnWalk
import Derived.WalkKit
import Derived.BigCall
set_option linter.unusedVariables false
set_option linter.unusedSimpArgs false
namespace Go.Proofs.YtimdilbcijgadaaGreatDoor
open Go Go.Aev Go.RowKit

theorem info22 : ∃ i, Tryz.prog.info? 38 = some i ∧ i.zero = some (.slice none 0 0) ∧ i.size = 1 ∧ i.bytes = 24 := info_parts (by kernel_rfl)

set_option maxRecDepth 100000 in
set_option maxHeartbeats 1000000 in
set_option maxRecDepth 100000 in
theorem sortP (p : Par) {C : Cfg} (hP : C.P = Tryz.prog) (hdr : C.dr = false) : CallAt C 82 (primS sortS) := by
  intro args sg rs sg' h w M sm vs hl hr hs hg
  unfold primS sortS at h
  split at h
  case h_2 => cases h
  rename_i es
  obtain ⟨h1, h2⟩ := cond_any h
  cases h2
  simp only [Bool.and_eq_true, decide_eq_true_eq] at h1
  obtain ⟨hrows, hlen⟩ := h1
  obtain ⟨l, rfl, hll⟩ := rowsOk_iff hrows
  rw [List.length_map] at hlen
  have hsm : sm = [] := List.eq_nil_of_length_eq_zero hs.1.symm
  subst hsm
  obtain ⟨vl⟩ := vs
  match vl, hl with
  | [v], _ =>
  have hv := hr 0 _ v rfl rfl
  cases hv with
  | dat hv =>
  obtain ⟨i0, k1, k2, k3, k4⟩ := info22
  have hsz : ∀ e ∈ l.map (fun x => [R.enc x]), e.length = 1 := fun e he => by
    obtain ⟨x, _, rfl⟩ := List.mem_map.1 he; rfl
  have hclone : Calls Tryz.prog 96 #[v] w fun e w' => ∃ v' news, e = .returned v' ∧ w'.ownsRow w.heap.size 38 1 v' (l.map fun x => [R.enc x]).length news ∧ Below w.heap.size w w' ∧
      ∀ (i j : Nat) e d, (l.map fun x => [R.enc x])[i]? = some e → e[j]? = some d → ∀ u, news[i * 1 + j]? = some u → Rep w M d u :=
    clone_raw Tryz.cloneLR i0 _ 1 24 k1 k2 k3 k4 rfl (by decide) Tryz.sizeOf38 hv hsz (by rw [List.length_map]; omega) (by rw [List.length_map]; omega)
  rw [List.length_map] at hclone
  have eg : ∀ args w, (callFunc 98 args).run Tryz.prog w = .ok (.enter 98 args) w := enters_of Tryz.func98 (by kernel_rfl) rfl
  have hsort : ∀ (w1 : World) (v1 : Value) (news : List Value), w1.ownsRow w.heap.size 38 1 v1 l.length news → Below w.heap.size w w1 →
      (∀ (i j : Nat) e d, (l.map fun x => [R.enc x])[i]? = some e → e[j]? = some d → ∀ u, news[i * 1 + j]? = some u → Rep w M d u) →
      Calls Tryz.prog 97 #[v1, .func (.func 98) #[] #[]] w1 fun e w2 => e = .returned (.tuple #[]) ∧ Below w.heap.size w w2 ∧
        ∃ news', w2.ownsRow w.heap.size 38 1 v1 l.length news' ∧ ∀ (i : Nat) x u, (sortBy R.cmpD (l.map R.enc))[i]? = some x → news'[i]? = some u → Rep w M x u := by
    intro w1 v1 news hown hbw hrep
    have := sortfunc_step (C0 := cfgZ p) Tryz.sortL Tryz.sortL0 rfl (cfgZ_ok p) (primZ_ok p) rfl R.ordD (g := 98) rfl eg (fun x y hx hy => Z.call_Compare p hx hy) (w := w) (w1 := w1) (M := M) (xs := l.map R.enc)
      (fun x hx => by obtain ⟨y, hy, rfl⟩ := List.mem_map.1 hx; exact ⟨y, hll y hy, rfl⟩) (by rw [List.length_map]; omega) (v1 := v1) (T := 38) (news := news) (by rw [List.length_map]; exact hown) hbw
      (fun i x u hx hu => by
        rw [List.getElem?_map, Option.map_eq_some_iff] at hx
        obtain ⟨y, hy, rfl⟩ := hx
        exact hrep i 0 [R.enc y] (R.enc y) (by rw [List.getElem?_map, hy]; rfl) rfl u (by simpa using hu)) ⟨fun i c h => (by cases h), fun i o h => (by cases h)⟩
    rw [List.length_map] at this
    exact this
  have key : Calls Tryz.prog 82 #[v] w fun e w2 => ∃ v1, e = .returned v1 ∧ Below w.heap.size w w2 ∧
      ∃ news', w2.ownsRow w.heap.size 38 1 v1 l.length news' ∧ ∀ (i : Nat) x u, (sortBy R.cmpD (l.map R.enc))[i]? = some x → news'[i]? = some u → Rep w M x u := by
    clear hr hs hg hv hrows hll hsz
    go_enter Tryz.func82, Tryz.ntmps82
    go_wp2_with (first
      | (go_at_call 96; refine hclone.mono ?_; rintro e w1 ⟨v1, news, rfl, hown, hbw, hrep⟩)
      | (go_at_call 97; refine (hsort _ _ news hown hbw hrep).mono ?_; rintro e w2 ⟨rfl, hbw2, hres⟩))
    go_ret
    exact ⟨v1, rfl, hbw2, hres⟩
  rw [hP]
  refine key.mono ?_
  rintro e w2 ⟨v1, rfl, hbw, news, hown, hrep⟩
  have hlen2 : (Sp.sortRows (l.map fun x => [R.enc x])).length = l.length := by rw [sortRows_enc, List.length_map]; exact (sortBy_perm R.cmp l).length_eq
  refine own_out hdr (.inl rfl) (es := Sp.sortRows (l.map fun x => [R.enc x])) (size := 1) (T := 38) (news := news) (fun e he => ?_) (fun i j e d he hd u hu => ?_) (by rw [hlen2]; exact hown) hbw
  · rw [sortRows_enc] at he
    obtain ⟨x, _, rfl⟩ := List.mem_map.1 he; rfl
  · rw [sortRows_enc, List.getElem?_map, Option.map_eq_some_iff] at he
    obtain ⟨x, hx, rfl⟩ := he
    have hj : j = 0 := by have := (List.getElem?_eq_some_iff.1 hd).1; simp at this; omega
    subst hj
    cases hd
    refine hrep i _ u ?_ (by simpa using hu)
    rw [R.sortBy_enc, List.getElem?_map, hx]; rfl

end Go.Proofs.YtimdilbcijgadaaGreatDoor

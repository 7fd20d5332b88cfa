/- The library's functions at this program; the sort; how the evaluator is set. -/
import Derived.Test.YtcglmokfjohdaaaKC
import Derived.OwnWalk
import Derived.WalkKit
import Derived.BigCall
set_option linter.unusedVariables false
set_option linter.unusedSimpArgs false
namespace Go.Proofs.Ytcglmokfjohdaaa
open Go Go.Aev Go.RowKit

def primT (f : FuncId) : Option (List AVal → Sig → Option (List Ent × Sig)) := cond (f == 50) (some (primS (cloneS 1 24))) <| cond (f == 27) (some (primS sortS)) none
def primK : FuncId → Option Ent3
  | 50 => some (cloneS 1 24)
  | 27 => some sortS
  | _ => none

noncomputable def cfg (_p : Par) : Cfg :=
  { P := Try.prog, glob := fun _ => none, esc := escT, loop := loopT, join := fun _ _ => false, ownRes := ownResT, ownArg := ownArgT, nilGrow := nilGrowT, prim := primT }

theorem cfg_ok (p : Par) : CfgOk (cfg p) := by
  refine ⟨names_ok, by kernel_rfl, fun f z h => ?_, fun g z h n w hn => ?_⟩
  · have h : ownArgT f = some z := h
    unfold ownArgT at h
    split at h
    · cases h; exact ⟨rfl, rfl⟩
    · cases h
  · have h : nilGrowT g = some z := h
    unfold nilGrowT at h
    split at h
    · cases h
      obtain ⟨i0, h1, h2, h3, h4⟩ := info_parts (P := Try.prog) (e := 56) (z := .agg #[.int .i64 0, .int .i64 0, .string ⟨#[]⟩]) (size := 3) (bytes := 32) (by kernel_rfl)
      exact ⟨Try.f58, Try.func58, (by intro h; cases h), grow_ok Try.growL rfl i0 _ 3 32 h1 h2 h3 h4 rfl (by decide) n w hn⟩
    · cases h

theorem info22 : ∃ i, Try.prog.info? 22 = some i ∧ i.zero = some (.slice none 0 0) ∧ i.size = 1 ∧ i.bytes = 24 := info_parts (by kernel_rfl)

set_option maxRecDepth 100000 in
theorem cloneP (p : Par) : CallAt (cfg p) 50 (primS (cloneS 1 24)) := by
  obtain ⟨i0, h1, h2, h3, h4⟩ := info22
  exact cloneS_ok (C := cfg p) (ρ := Try.cloneL_ren) rfl Try.cloneL rfl i0 _ 1 24 h1 h2 h3 h4 rfl (by decide) Try.sizeOf22

set_option maxHeartbeats 1000000 in
set_option maxRecDepth 100000 in
theorem sortP (p : Par) : CallAt (cfg p) 27 (primS sortS) := by
  intro args sg rs sg' h w M sm vs hl hr hs hg
  unfold primS sortS at h
  split at h
  case h_2 => cases h
  rename_i es
  obtain ⟨h1, h2⟩ := cond_any h
  cases h2
  simp only [Bool.and_eq_true, decide_eq_true_eq] at h1
  obtain ⟨hrows, hlen⟩ := h1
  obtain ⟨l, rfl, hll⟩ := rowsOk_iff hrows
  rw [List.length_map] at hlen
  have hsm : sm = [] := List.eq_nil_of_length_eq_zero hs.1.symm
  subst hsm
  obtain ⟨vl⟩ := vs
  match vl, hl with
  | [v], _ =>
  have hv := hr 0 _ v rfl rfl
  cases hv with
  | dat hv =>
  obtain ⟨i0, k1, k2, k3, k4⟩ := info22
  have hsz : ∀ e ∈ l.map (fun x => [R.enc x]), e.length = 1 := fun e he => by
    obtain ⟨x, _, rfl⟩ := List.mem_map.1 he; rfl
  have hclone : Calls Try.prog 50 #[v] w fun e w' => ∃ v' news, e = .returned v' ∧ w'.ownsRow w.heap.size 22 1 v' (l.map fun x => [R.enc x]).length news ∧ Below w.heap.size w w' ∧
      ∀ (i j : Nat) e d, (l.map fun x => [R.enc x])[i]? = some e → e[j]? = some d → ∀ u, news[i * 1 + j]? = some u → Rep w M d u :=
    clone_raw Try.cloneL i0 _ 1 24 k1 k2 k3 k4 rfl (by decide) Try.sizeOf22 hv hsz (by rw [List.length_map]; omega) (by rw [List.length_map]; omega)
  rw [List.length_map] at hclone
  have eg : ∀ args w, (callFunc 19 args).run Try.prog w = .ok (.enter 19 args) w := enters_of Try.func19 (by kernel_rfl) rfl
  have hsort : ∀ (w1 : World) (v1 : Value) (news : List Value), w1.ownsRow w.heap.size 22 1 v1 l.length news → Below w.heap.size w w1 →
      (∀ (i j : Nat) e d, (l.map fun x => [R.enc x])[i]? = some e → e[j]? = some d → ∀ u, news[i * 1 + j]? = some u → Rep w M d u) →
      Calls Try.prog 51 #[v1, .func (.func 19) #[] #[]] w1 fun e w2 => e = .returned (.tuple #[]) ∧ Below w.heap.size w w2 ∧
        ∃ news', w2.ownsRow w.heap.size 22 1 v1 l.length news' ∧ ∀ (i : Nat) x u, (sortBy R.cmpD (l.map R.enc))[i]? = some x → news'[i]? = some u → Rep w M x u := by
    intro w1 v1 news hown hbw hrep
    have := sortfunc_step (C0 := cfgZ p) Try.sortL Try.sortL0 rfl (cfgZ_ok p) (primZ_ok p) rfl R.ordD (g := 19) rfl eg (fun x y hx hy => Z.call_Compare p hx hy) (w := w) (w1 := w1) (M := M) (xs := l.map R.enc)
      (fun x hx => by obtain ⟨y, hy, rfl⟩ := List.mem_map.1 hx; exact ⟨y, hll y hy, rfl⟩) (by rw [List.length_map]; omega) (v1 := v1) (T := 22) (news := news) (by rw [List.length_map]; exact hown) hbw
      (fun i x u hx hu => by
        rw [List.getElem?_map, Option.map_eq_some_iff] at hx
        obtain ⟨y, hy, rfl⟩ := hx
        exact hrep i 0 [R.enc y] (R.enc y) (by rw [List.getElem?_map, hy]; rfl) rfl u (by simpa using hu)) ⟨fun i c h => (by cases h), fun i o h => (by cases h)⟩
    rw [List.length_map] at this
    exact this
  have key : Calls Try.prog 27 #[v] w fun e w2 => ∃ v1, e = .returned v1 ∧ Below w.heap.size w w2 ∧
      ∃ news', w2.ownsRow w.heap.size 22 1 v1 l.length news' ∧ ∀ (i : Nat) x u, (sortBy R.cmpD (l.map R.enc))[i]? = some x → news'[i]? = some u → Rep w M x u := by
    clear hr hs hg hv hrows hll hsz
    go_enter Try.func27, Try.ntmps27
    go_wp2_with (first
      | (go_at_call 50; refine hclone.mono ?_; rintro e w1 ⟨v1, news, rfl, hown, hbw, hrep⟩)
      | (go_at_call 51; refine (hsort _ _ news hown hbw hrep).mono ?_; rintro e w2 ⟨rfl, hbw2, hres⟩))
    go_ret
    exact ⟨v1, rfl, hbw2, hres⟩
  refine key.mono ?_
  rintro e w2 ⟨v1, rfl, hbw, news, hown, hrep⟩
  have hlen2 : (Sp.sortRows (l.map fun x => [R.enc x])).length = l.length := by rw [sortRows_enc, List.length_map]; exact (sortBy_perm R.cmp l).length_eq
  refine own_out rfl (.inl rfl) (es := Sp.sortRows (l.map fun x => [R.enc x])) (size := 1) (T := 22) (news := news) (fun e he => ?_) (fun i j e d he hd u hu => ?_) (by rw [hlen2]; exact hown) hbw
  · rw [sortRows_enc] at he
    obtain ⟨x, _, rfl⟩ := List.mem_map.1 he; rfl
  · rw [sortRows_enc, List.getElem?_map, Option.map_eq_some_iff] at he
    obtain ⟨x, hx, rfl⟩ := he
    have hj : j = 0 := by have := (List.getElem?_eq_some_iff.1 hd).1; simp at this; omega
    subst hj
    cases hd
    refine hrep i _ u ?_ (by simpa using hu)
    rw [R.sortBy_enc, List.getElem?_map, hx]; rfl

theorem prim_ok (p : Par) : ∀ f F, (cfg p).prim f = some F → CallAt (cfg p) f F := by
  intro f F h
  have h : primT f = some F := h
  unfold primT at h
  have step : ∀ {k : Nat} {G : List AVal → Sig → Option (List Ent × Sig)} {R : Option (List AVal → Sig → Option (List Ent × Sig))}, CallAt (cfg p) k G → (R = some F → CallAt (cfg p) f F) → cond (f == k) (some G) R = some F → CallAt (cfg p) f F := by
    intro k G R hG hR h
    cases hf : (f == k) with
    | true =>
      rw [hf] at h
      cases h
      have : f = k := by simpa using hf
      rw [this]; exact hG
    | false => rw [hf] at h; exact hR h
  exact step (cloneP p) (step (sortP p) (fun h => by cases h)) h
end Go.Proofs.Ytcglmokfjohdaaa

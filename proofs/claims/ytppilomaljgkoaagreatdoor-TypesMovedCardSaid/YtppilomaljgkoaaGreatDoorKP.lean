/- The functions that range over a function, as the evaluator sees them; how it is set. -/
import Derived.Test.YtppilomaljgkoaaGreatDoorKZ
import Derived.Test.YtppilomaljgkoaaGreatDoorKR
import Derived.Test.YtppilomaljgkoaaGreatDoorAevD
set_option linter.unusedVariables false
set_option linter.unusedSimpArgs false
namespace Go.Proofs.YtppilomaljgkoaaGreatDoor
open Go Go.Aev Go.RowKit Go.Sort
def isKind (kv : Int) : List Dat → Bool
  | .int .i64 k :: _ => decide (k = kv)
  | _ => false
def kindsRes (z : Int) (e : List Dat) (kv : Int) : Option (List (List Dat)) :=
  cond (decide (z = 0)) (match preK 100 e with
    | some ys => cond (decide (ys.length ≤ 1000)) (some (ys.filter (isKind kv))) none
    | none => none) (some [])
def Sp.expr_kinds (k n vk vn : Int) (vs tab col : ByteArray) (l : List (List Dat)) (kv : Int) (γ : Type) (K : List (List Dat) → Option γ) : Option γ :=
  Z.Sp.expr_Check k n vk vn vs tab col l γ fun z => (kindsRes z [.int .i64 k, .int .i64 n, .int .i64 vk, .int .i64 vn, .str vs, .str tab, .str col, .sl l] kv).bind K
noncomputable def kindsF (p : Par) : List AVal → Sig → Option (List Ent × Sig) := fun a sg => match a, sg with
  | [.agg [(.int .i64 k, .none), (.int .i64 n, .none), (.int .i64 vk, .none), (.int .i64 vn, .none), (.str vs, .none), (.str tab, .none), (.str col, .none), (.sl l, .none)], .dat (.int .i64 kv)], [] => (callL (cfgZ p) 34 [.agg [(.int .i64 k, .none), (.int .i64 n, .none), (.int .i64 vk, .none), (.int .i64 vn, .none), (.str vs, .none), (.str tab, .none), (.str col, .none), (.sl l, .none)]] []).bind fun r => (match r with
    | ([(.dat (.int .i64 z), .none)], []) => (kindsRes z [.int .i64 k, .int .i64 n, .int .i64 vk, .int .i64 vn, .str vs, .str tab, .str col, .sl l] kv).map fun r => ([(.dat (.sl r), .none)], [])
    | _ => none)
  | _, _ => none
theorem check_of (p : Par) {k n vk vn : Int} {vs tab col : ByteArray} {l : List (List Dat)} {β : Type} {G : Int → Option β} {q : β} (h : Z.Sp.expr_Check k n vk vn vs tab col l β G = some q) :
    ∃ z, callL (cfgZ p) 34 [.agg [(.int .i64 k, .none), (.int .i64 n, .none), (.int .i64 vk, .none), (.int .i64 vn, .none), (.str vs, .none), (.str tab, .none), (.str col, .none), (.sl l, .none)]] [] = some ([(.dat (.int .i64 z), .none)], []) ∧ G z = some q := by
  have hE := Z.E_expr_Check p (ent_none _ _) [.agg [(.int .i64 k, .none), (.int .i64 n, .none), (.int .i64 vk, .none), (.int .i64 vn, .none), (.str vs, .none), (.str tab, .none), (.str col, .none), (.sl l, .none)]] [] β (fun r => match r with
    | ([(.dat (.int .i64 z), .none)], []) => G z
    | _ => none) q h
  obtain ⟨r, h1, h2⟩ := hE
  split at h2
  · exact ⟨_, h1, h2⟩
  · cases h2
theorem el_arg {w : World} {M : Nat → Nat} {k n vk vn : Int} {vs tab col : ByteArray} {l : List (List Dat)} {v : Value} (h : RepB w M [] (.agg [(.int .i64 k, .none), (.int .i64 n, .none), (.int .i64 vk, .none), (.int .i64 vn, .none), (.str vs, .none), (.str tab, .none), (.str col, .none), (.sl l, .none)]) v) :
    ∃ oa ln cap, v = .agg (El.vals ⟨k, n, vk, vn, vs, tab, col, l, oa, ln, cap⟩) ∧ Rep w M (.sl l) (.slice oa ln cap) := by
  cases h with
  | agg hl h =>
    rename_i us
    obtain ⟨us⟩ := us
    match us, hl with
    | [u0, u1, u2, u3, u4, u5, u6, u7], _ =>
      have h0 := (h 0 _ u0 rfl rfl).1
      have h1 := (h 1 _ u1 rfl rfl).1
      have h2 := (h 2 _ u2 rfl rfl).1
      have h3 := (h 3 _ u3 rfl rfl).1
      have h4 := (h 4 _ u4 rfl rfl).1
      have h5 := (h 5 _ u5 rfl rfl).1
      have h6 := (h 6 _ u6 rfl rfl).1
      have h7 := (h 7 _ u7 rfl rfl).1
      have hsl : ∃ oa' ln' cap', u7 = .slice oa' ln' cap' := by cases h7 <;> exact ⟨_, _, _, rfl⟩
      obtain ⟨oa', ln', cap', rfl⟩ := hsl
      cases h0; cases h1; cases h2; cases h3; cases h4; cases h5; cases h6
      exact ⟨_, _, _, rfl, h7⟩
theorem el_rep {w : World} {M : Nat → Nat} {x : El} (h : Rep w M (.sl x.kids) (.slice x.oa x.ln x.cap)) (j : Nat) (d : Dat) (u : Value) (hd : x.dat[j]? = some d) (hu : x.vals[j]? = some u) : Rep w M d u := by
  match j, hd, hu with
  | 0, hd, hu => cases hd; cases hu; exact .int _ _
  | 1, hd, hu => cases hd; cases hu; exact .int _ _
  | 2, hd, hu => cases hd; cases hu; exact .int _ _
  | 3, hd, hu => cases hd; cases hu; exact .int _ _
  | 4, hd, hu => cases hd; cases hu; exact .str _
  | 5, hd, hu => cases hd; cases hu; exact .str _
  | 6, hd, hu => cases hd; cases hu; exact .str _
  | 7, hd, hu => cases hd; cases hu; exact h
  | j + 8, hd, _ => simp [El.dat] at hd
def cutM (M : Nat → Nat) (B : Nat) : Nat → Nat := fun b => if b < B then M b else 0
theorem keeps_cut {w : World} {M : Nat → Nat} : Keeps w w M (cutM M w.heap.size) := keeps_of fun b hb _ => ⟨rfl, by unfold cutM; rw [if_pos hb]; exact Nat.le_refl _⟩
theorem keeps_uncut {w : World} {M : Nat → Nat} {B : Nat} : Keeps w w (cutM M B) M := keeps_of fun b hb hm => ⟨rfl, by unfold cutM at hm ⊢; split at hm <;> simp_all⟩
theorem after_below' {C : Cfg} (hd : C.dr = false) {w w' : World} {M M' : Nat → Nat} {sm' : List Nat} (h : After C w w' M M' [] sm') : Below w.heap.size w w' :=
  ⟨h.os, h.tape, h.output.1, h.size, fun b hb => h.block b hb touch_nil⟩
theorem check_contract (p : Par) {w : World} {M : Nat → Nat} {k n vk vn : Int} {vs tab col : ByteArray} {l : List (List Dat)} {oa : Option Addr} {ln cap : Nat} (hx : Rep w M (.sl l) (.slice oa ln cap)) (hg : GlobOk (cfgZ p) w M) {z : Int}
    (hz : callL (cfgZ p) 34 [.agg [(.int .i64 k, .none), (.int .i64 n, .none), (.int .i64 vk, .none), (.int .i64 vn, .none), (.str vs, .none), (.str tab, .none), (.str col, .none), (.sl l, .none)]] [] = some ([(.dat (.int .i64 z), .none)], [])) (m : Nat) (W : World) (hb : Below w.heap.size w W) (_ : w.heap.size ≤ W.heap.size) :
    CallsIn Fence.wide m Tryz.prog 34 #[.agg (El.vals ⟨k, n, vk, vn, vs, tab, col, l, oa, ln, cap⟩)] W fun e W' => e = .returned (.int .i64 z) ∧ Below W.heap.size W W' := by
  refine callsIn_wide.2 ?_
  have hM : ∀ b, w.heap.size ≤ b → cutM M w.heap.size b = 0 := fun b hb => if_neg (by omega)
  have hkW : Keeps w W (cutM M w.heap.size) (cutM M w.heap.size) := keeps_below hM hb
  have hxW := (hx.mono keeps_cut).mono hkW
  have hgW : GlobOk (cfgZ p) W (cutM M w.heap.size) := hg.mono fun b hlt => ⟨hb.block b hlt, if_pos hlt⟩
  refine ((callL_ok (cfgZ_ok p) (primZ_ok p)).plain 34 rfl _ [] _ [] hz W (cutM M w.heap.size) [] #[.agg (El.vals ⟨k, n, vk, vn, vs, tab, col, l, oa, ln, cap⟩)] rfl (fun i x v hx' hv => ?_) (sigOk_nil _ W _) hgW).mono ?_
  · match i, hx', hv with
    | 0, hx', hv =>
      cases hx'; cases hv
      refine .agg rfl fun j c u hc hu => ?_
      match j, hc, hu with
      | 0, hc, hu => cases hc; cases hu; exact ⟨.int _ _, rfl⟩
      | 1, hc, hu => cases hc; cases hu; exact ⟨.int _ _, rfl⟩
      | 2, hc, hu => cases hc; cases hu; exact ⟨.int _ _, rfl⟩
      | 3, hc, hu => cases hc; cases hu; exact ⟨.int _ _, rfl⟩
      | 4, hc, hu => cases hc; cases hu; exact ⟨.str _, rfl⟩
      | 5, hc, hu => cases hc; cases hu; exact ⟨.str _, rfl⟩
      | 6, hc, hu => cases hc; cases hu; exact ⟨.str _, rfl⟩
      | 7, hc, hu => cases hc; cases hu; exact ⟨hxW, rfl⟩
      | j + 8, hc, _ => simp at hc
    | i + 1, hx', _ => simp at hx'
  · rintro e W' ⟨v, M', sm', rfl, hA, _, us, huv, hul, hres, _⟩
    match us, hul, huv, hres with
    | [u], _, huv, hres =>
      have := (hres 0 _ u rfl rfl).1
      cases this with
      | dat hu =>
        cases hu
        cases huv
        exact ⟨rfl, after_below' rfl hA⟩
theorem sel_dats {w : World} {M : Nat → Nat} (kv : Int) : ∀ xs : List (Elm w M), datsOf (selOf kv xs) = (datsOf xs).filter (isKind kv)
  | [] => rfl
  | x :: xs => by
    have ih := sel_dats kv xs
    unfold selOf at ih ⊢
    show datsOf (List.filter _ (x :: xs)) = List.filter _ (x.1.dat :: datsOf xs)
    rw [List.filter_cons, List.filter_cons, ← ih, show isKind kv x.1.dat = decide (x.1.k = kv) from rfl]
    cases decide (x.1.k = kv) <;> rfl
theorem dats_sized {w : World} {M : Nat → Nat} : ∀ (xs : List (Elm w M)), ∀ e ∈ datsOf xs, e.length = 8
  | [], e, h => by cases h
  | x :: xs, e, h => by
    rcases List.mem_cons.1 h with rfl | h
    · rfl
    · exact dats_sized xs e h
theorem cells_rep {w : World} {M0 M : Nat → Nat} (hk : Keeps w w M0 M) : ∀ (xs : List (Elm w M0)) (i j : Nat) (e : List Dat) (d : Dat), (datsOf xs)[i]? = some e → e[j]? = some d → ∀ u, (cellsOf xs)[i * 8 + j]? = some u → Rep w M d u
  | [], i, j, e, d, he, _, u, _ => by simp [datsOf] at he
  | x :: xs, 0, j, e, d, he, hd, u, hu => by
    have he : some x.1.dat = some e := he
    cases he
    have hj : j < 8 := (List.getElem?_eq_some_iff.1 hd).1
    have hu : (x.1.vals.toList ++ cellsOf xs)[0 * 8 + j]? = some u := hu
    rw [Nat.zero_mul, Nat.zero_add, List.getElem?_append_left (by rw [vals_len]; exact hj), Array.getElem?_toList] at hu
    exact (el_rep x.2 j d u hd hu).mono hk
  | x :: xs, i + 1, j, e, d, he, hd, u, hu => by
    have he : (datsOf xs)[i]? = some e := he
    have hu : (x.1.vals.toList ++ cellsOf xs)[(i + 1) * 8 + j]? = some u := hu
    rw [List.getElem?_append_right (by rw [vals_len]; omega), vals_len, show (i + 1) * 8 + j - 8 = i * 8 + j by omega] at hu
    exact cells_rep hk xs i j e d he hd u hu
theorem kindsP (p : Par) {C : Cfg} (hP : C.P = Tryz.prog) (hd : C.dr = false) (hgl : ∀ w M, GlobOk C w M → GlobOk (cfgZ p) w M) : CallAt C 51 (kindsF p) := by
  intro args sg rs sg' h w M sm vs hl hr hs hg
  unfold kindsF at h
  split at h
  case h_2 => cases h
  rename_i k n vk vn vs' tab col l kv
  rw [Option.bind_eq_some_iff] at h
  obtain ⟨r, hz, h⟩ := h
  split at h
  case h_2 => cases h
  rename_i z
  rw [Option.map_eq_some_iff] at h
  obtain ⟨res, h, hres⟩ := h
  unfold kindsRes at h
  have hsm : sm = [] := List.eq_nil_of_length_eq_zero hs.1.symm
  subst hsm
  obtain ⟨vl⟩ := vs
  match vl, hl with
  | [v0, v1], _ =>
  obtain ⟨oa, ln, cap, rfl, hx⟩ := el_arg (hr 0 _ v0 rfl rfl)
  have h1 : v1 = .int .i64 kv := by cases hr 1 _ v1 rfl rfl with | dat h => cases h; rfl
  subst h1
  have key : ∀ ys : List (List Dat), (z = 0 → preK 100 [.int .i64 k, .int .i64 n, .int .i64 vk, .int .i64 vn, .str vs', .str tab, .str col, .sl l] = some ys) → ys.length ≤ 1000 → rs = [(.dat (.sl ((if z = 0 then ys else []).filter (isKind kv))), .none)] → sg' = [] →
      Calls C.P 51 #[.agg (El.vals ⟨k, n, vk, vn, vs', tab, col, l, oa, ln, cap⟩), .int .i64 kv] w fun e w' => ∃ v M' sm', e = .returned v ∧ After C w w' M M' [] sm' ∧ SigOk C w' M' sm' sg' ∧ RepRes w' M' sm' w.heap.size rs v := by
    rintro ys hpre hys rfl rfl
    rw [hP]
    have hM : ∀ b, w.heap.size ≤ b → cutM M w.heap.size b = 0 := fun b hb => if_neg (by omega)
    have hk := kinds_in Fence.wide rfl 3 trivial trivial trivial trivial trivial rfl (Nat.le_refl _) 100 w (cutM M w.heap.size) hM ⟨⟨k, n, vk, vn, vs', tab, col, l, oa, ln, cap⟩, hx.mono keeps_cut⟩ kv z ys
      (check_contract p hx (hgl w M hg) hz) hpre hys
    refine (callsIn_wide.1 hk).mono ?_
    rintro e w' ⟨v, xs, rfl, hxs, hown, hbw⟩
    rw [← hxs, ← sel_dats]
    have hlen : (selOf kv xs).length = (datsOf (selOf kv xs)).length := (datsOf_length _).symm
    rw [hlen] at hown
    exact own_out hd (.inl rfl) (dats_sized _) (cells_rep keeps_uncut _) hown hbw
  by_cases hz0 : z = 0
  · rw [decide_eq_true hz0, cond_true] at h
    split at h
    · rename_i ys hys
      obtain ⟨h1, h2⟩ := cond_any h
      cases h2
      cases hres
      exact key ys (fun _ => hys) (by simpa using h1) (by rw [if_pos hz0]) rfl
    · cases h
  · rw [decide_eq_false hz0, cond_false] at h
    cases h
    cases hres
    exact key [] (fun h0 => absurd h0 hz0) (by simp) (by rw [if_neg hz0]; rfl) rfl
end Go.Proofs.YtppilomaljgkoaaGreatDoor

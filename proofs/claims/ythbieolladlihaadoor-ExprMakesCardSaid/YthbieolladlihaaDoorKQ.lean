/- How the evaluator is set for the whole program. -/
import Derived.Test.YthbieolladlihaaDoorKP
set_option linter.unusedVariables false
namespace Go.Proofs.YthbieolladlihaaDoor
open Go Go.Aev Go.RowKit Go.Sort
/-- strconv.Itoa -/
def itoaA (args : List AVal) (sg : Sig) : Option (List Ent × Sig) :=
  match args, sg with
  | [.dat (.int .i64 n)], [] => cond (decide (-9223372036854775808 ≤ n) && decide (n ≤ 9223372036854775807)) (some ([(.dat (.str ⟨(Lib.itoa n).toArray⟩), .none)], [])) none
  | _, _ => none

noncomputable def primT (p : Par) (f : FuncId) : Option (List AVal → Sig → Option (List Ent × Sig)) :=
  cond (f == 44) (some replA) <| cond (f == 88) (some splitA) <| cond (f == 43) (some itoaA) <| cond (f == 28) (some (primS (cloneS 8 104))) <| cond (f == 32) (some (kindsF p)) <| cond (f == 24) (some (safeF p)) none
def primK : FuncId → Option Ent3
  | 28 => some (cloneS 8 104)
  | _ => none

noncomputable def cfg (p : Par) : Cfg :=
  { P := Tryd.prog, glob := globT p.m, low := fun i => cond (i == 2) (some (pow10O p)) none, esc := escT, loop := loopT, join := fun _ _ => false, ownRes := ownResT, prim := primT p }

theorem cfg_ok (p : Par) : CfgOk (cfg p) := ⟨names_ok, by kernel_rfl, fun f z h => (by cases h), fun g z h n w hn => (by cases h)⟩

theorem globZ (p : Par) : ∀ w M, GlobOk (cfg p) w M → GlobOk (cfgZ p) w M := fun w M h => ⟨h.glob, h.low⟩
theorem replP (p : Par) : CallAt (cfg p) 44 replA := replA_ok rfl fun s old new w _ hg h1 h2 h3 => Tryd.strings_ReplaceAll s old new p.m w h1 (max_cell p (globZ p _ _ hg)) h2 h3
theorem splitP (p : Par) : CallAt (cfg p) 88 splitA := splitA_ok (T := 9) rfl fun s sep w _ hg h1 h2 => Tryd.strings_Split s sep p.m w h1 (max_cell p (globZ p _ _ hg)) h2
theorem below_grow (w : World) (k : Nat) (os : Array Obj) : Below w.heap.size w (grow (w.drewN k) os) := by
  refine ⟨rfl, rfl, rfl, ?_, fun i hi => ?_⟩
  · show w.heap.size ≤ (w.heap ++ os).size
    simp
  · show (w.heap ++ os)[i]? = w.heap[i]?
    rw [Array.getElem?_append_left hi]

theorem itoaA_ok (p : Par) : CallAt (cfg p) 43 itoaA := by
  refine callAt_one rfl (fun args sg rs sg' h => ?_) fun args sg rs sg' h w M vs hl hr hg => ?_
  · unfold itoaA at h
    split at h
    · rfl
    · cases h
  · unfold itoaA at h
    split at h
    · rename_i n
      obtain ⟨h1, h2⟩ := cond_any h
      simp only [Bool.and_eq_true, decide_eq_true_eq] at h1
      cases h2
      refine ⟨rfl, _, rfl, ?_⟩
      obtain ⟨l⟩ := vs
      match l, hl with
      | [v0], _ =>
        have r0 : v0 = .int .i64 n := by cases hr 0 _ v0 rfl rfl with | dat h => cases h; rfl
        subst r0
        have ht : Lib.TabIs Tryd.prog w "internal/strconv.uint64pow10" .u64 Lib.pow10Tab := by
          unfold Lib.TabIs World.var?
          rw [show Tryd.prog.globalNamed "internal/strconv.uint64pow10" = some 2 by kernel_rfl, Option.bind_some, (hg.low 2 (pow10O p) rfl).1]
          rfl
        refine (Tryd.strconv_Itoa n h1.1 h1.2 w ht).mono fun e w' hq => ?_
        obtain ⟨he, k, os, rfl⟩ := hq
        exact ⟨_, he, below_grow w k os, .str _⟩
    · cases h


theorem info26 : ∃ i, Tryd.prog.info? 26 = some i ∧ i.zero = some (.agg #[.int .i64 0, .int .i64 0, .int .i64 0, .int .i64 0, .string ⟨#[]⟩, .string ⟨#[]⟩, .string ⟨#[]⟩, .slice none 0 0]) ∧ i.size = 8 ∧ i.bytes = 104 := info_parts (by kernel_rfl)
set_option maxRecDepth 100000 in
theorem cloneP (p : Par) : CallAt (cfg p) 28 (primS (cloneS 8 104)) := by
  obtain ⟨i0, h1, h2, h3, h4⟩ := info26
  exact cloneS_ok (C := cfg p) (ρ := Tryd.cloneL_ren) rfl Tryd.cloneL rfl i0 _ 8 104 h1 h2 h3 h4 rfl (by decide) Tryd.sizeOf26

theorem prim_ok (p : Par) : ∀ f F, (cfg p).prim f = some F → CallAt (cfg p) f F := by
  intro f F h
  have h : primT p f = some F := h
  unfold primT at h
  have step : ∀ {k : Nat} {G : List AVal → Sig → Option (List Ent × Sig)} {R : Option (List AVal → Sig → Option (List Ent × Sig))}, CallAt (cfg p) k G → (R = some F → CallAt (cfg p) f F) → cond (f == k) (some G) R = some F → CallAt (cfg p) f F := by
    intro k G R hG hR h
    cases hf : (f == k) with
    | true =>
      rw [hf] at h
      cases h
      have : f = k := by simpa using hf
      rw [this]; exact hG
    | false => rw [hf] at h; exact hR h
  exact step (replP p) (step (splitP p) (step (itoaA_ok p) (step (cloneP p) (step (kindsP p rfl rfl (globZ p)) (step (safeP p rfl rfl (globZ p)) (fun h => by cases h)))))) h

theorem E_strings_ReplaceAll (p : Par) {F : Ent3} (hF : EntOk (cfg p) 44 F) : EntOk (cfg p) 44 (P_strings_ReplaceAll Sp.strings_ReplaceAll F) := Go.Aev.E_strings_ReplaceAll rfl hF
theorem E_strings_Split (p : Par) {F : Ent3} (hF : EntOk (cfg p) 88 F) : EntOk (cfg p) 88 (P_strings_Split Sp.strings_Split F) := Go.Aev.E_strings_Split rfl hF
def Sp.strconv_Itoa (n : Int) (γ : Type) (K : ByteArray → Option γ) : Option γ :=
  cond (decide (-9223372036854775808 ≤ n) && decide (n ≤ 9223372036854775807)) (K ⟨(Lib.itoa n).toArray⟩) none
abbrev Ty_strconv_Itoa : Type 1 := Int → (γ : Type) → (ByteArray → Option γ) → Option γ
def P_strconv_Itoa (X : Ty_strconv_Itoa) (F : Ent3) : Ent3 := fun a s γ K => match a, s with
  | [.dat (.int .i64 n)], [] => X n γ fun r => K ([(.dat (.str r), .none)], [])
  | a, s => F a s γ K
theorem E_strconv_Itoa (p : Par) {F : Ent3} (hF : EntOk (cfg p) 43 F) : EntOk (cfg p) 43 (P_strconv_Itoa Sp.strconv_Itoa F) := by
  intro a s γ K q h
  unfold P_strconv_Itoa at h
  split at h
  · rename_i n
    refine ent_prim (S := fun a s γ K => (itoaA a s).bind K) (F := itoaA) rfl (fun a s γ K q h => h) _ _ γ K q ?_
    unfold Sp.strconv_Itoa at h
    obtain ⟨h1, h2⟩ := cond_any h
    simp only [itoaA, h1, cond_true]
    exact h2
  · exact hF _ _ _ _ _ h

abbrev Ty_expr_kinds : Type 1 := Int → Int → Int → Int → ByteArray → ByteArray → ByteArray → List (List Dat) → Int → (γ : Type) → (List (List Dat) → Option γ) → Option γ
def P_expr_kinds (X : Ty_expr_kinds) (F : Ent3) : Ent3 := fun a s γ K => match a, s with
  | [AVal.agg [(Dat.int IntKind.i64 k, Own.none), (Dat.int IntKind.i64 n, Own.none), (Dat.int IntKind.i64 vk, Own.none), (Dat.int IntKind.i64 vn, Own.none), (Dat.str vs, Own.none), (Dat.str tab, Own.none), (Dat.str col, Own.none), (Dat.sl l, Own.none)], AVal.dat (Dat.int IntKind.i64 kv)], [] => X k n vk vn vs tab col l kv γ fun r => K ([(AVal.dat (Dat.sl r), Own.none)], [])
  | a, s => F a s γ K
theorem E_expr_kinds (p : Par) {F : Ent3} (hF : EntOk (cfg p) 32 F) : EntOk (cfg p) 32 (P_expr_kinds Sp.expr_kinds F) := by
  intro a s γ K q h
  unfold P_expr_kinds at h
  split at h
  · rename_i k n vk vn vs tab col l kv
    unfold Sp.expr_kinds at h
    obtain ⟨z, hz, h⟩ := check_of p h
    rw [Option.bind_eq_some_iff] at h
    obtain ⟨r, hr, h⟩ := h
    refine ⟨([(.dat (.sl r), .none)], []), callL_prim (F := kindsF p) rfl ?_, h⟩
    unfold kindsF
    simp only [hz, Option.bind_some, hr, Option.map_some]
  · exact hF _ _ _ _ _ h
abbrev Ty_expr_Safe : Type 1 := Int → Int → Int → Int → ByteArray → ByteArray → ByteArray → List (List Dat) → (γ : Type) → (Bool → Option γ) → Option γ
def P_expr_Safe (X : Ty_expr_Safe) (F : Ent3) : Ent3 := fun a s γ K => match a, s with
  | [AVal.agg [(Dat.int IntKind.i64 k, Own.none), (Dat.int IntKind.i64 n, Own.none), (Dat.int IntKind.i64 vk, Own.none), (Dat.int IntKind.i64 vn, Own.none), (Dat.str vs, Own.none), (Dat.str tab, Own.none), (Dat.str col, Own.none), (Dat.sl l, Own.none)]], [] => X k n vk vn vs tab col l γ fun r => K ([(AVal.dat (Dat.bool r), Own.none)], [])
  | a, s => F a s γ K
theorem E_expr_Safe (p : Par) {F : Ent3} (hF : EntOk (cfg p) 24 F) : EntOk (cfg p) 24 (P_expr_Safe Sp.expr_Safe F) := by
  intro a s γ K q h
  unfold P_expr_Safe at h
  split at h
  · rename_i k n vk vn vs tab col l
    unfold Sp.expr_Safe at h
    obtain ⟨z, hz, h⟩ := check_of p h
    rw [Option.bind_eq_some_iff] at h
    obtain ⟨r, hr, h⟩ := h
    refine ⟨([(.dat (.bool r), .none)], []), callL_prim (F := safeF p) rfl ?_, h⟩
    unfold safeF
    simp only [hz, Option.bind_some, hr, Option.map_some]
  · exact hF _ _ _ _ _ h

end Go.Proofs.YthbieolladlihaaDoor

/- How the evaluator is set for the whole program. -/
import Derived.Test.YtebfhpjnbmdcoaaGreatDoorKP
set_option linter.unusedVariables false
namespace Go.Proofs.YtebfhpjnbmdcoaaGreatDoor
open Go Go.Aev Go.RowKit Go.Sort
noncomputable def primT (p : Par) (f : FuncId) : Option (List AVal → Sig → Option (List Ent × Sig)) :=
  cond (f == 93) (some splitA) <| cond (f == 45) (some (kindsF p)) <| cond (f == 33) (some (safeF p)) none
def primK : FuncId → Option Ent3
  | _ => none

noncomputable def cfg (p : Par) : Cfg :=
  { P := Tryz.prog, glob := globT p.m, low := fun _ => none, esc := escT, loop := loopT, join := fun _ _ => false, ownRes := ownResT, prim := primT p }

theorem cfg_ok (p : Par) : CfgOk (cfg p) := ⟨names_ok, by kernel_rfl, fun f z h => (by cases h), fun g z h n w hn => (by cases h)⟩

theorem globZ (p : Par) : ∀ w M, GlobOk (cfg p) w M → GlobOk (cfgZ p) w M := fun w M h => ⟨h.glob, h.low⟩
theorem splitP (p : Par) : CallAt (cfg p) 93 splitA := splitA_ok (T := 9) rfl fun s sep w _ hg h1 h2 => Tryz.strings_Split s sep p.m w h1 (max_cell p (globZ p _ _ hg)) h2

theorem prim_ok (p : Par) : ∀ f F, (cfg p).prim f = some F → CallAt (cfg p) f F := by
  intro f F h
  have h : primT p f = some F := h
  unfold primT at h
  have step : ∀ {k : Nat} {G : List AVal → Sig → Option (List Ent × Sig)} {R : Option (List AVal → Sig → Option (List Ent × Sig))}, CallAt (cfg p) k G → (R = some F → CallAt (cfg p) f F) → cond (f == k) (some G) R = some F → CallAt (cfg p) f F := by
    intro k G R hG hR h
    cases hf : (f == k) with
    | true =>
      rw [hf] at h
      cases h
      have : f = k := by simpa using hf
      rw [this]; exact hG
    | false => rw [hf] at h; exact hR h
  exact step (splitP p) (step (kindsP p rfl rfl (globZ p)) (step (safeP p rfl rfl (globZ p)) (fun h => by cases h))) h
theorem E_strings_Split (p : Par) {F : Ent3} (hF : EntOk (cfg p) 93 F) : EntOk (cfg p) 93 (P_strings_Split Sp.strings_Split F) := Go.Aev.E_strings_Split rfl hF
abbrev Ty_expr_kinds : Type 1 := Int → Int → Int → Int → ByteArray → ByteArray → ByteArray → List (List Dat) → Int → (γ : Type) → (List (List Dat) → Option γ) → Option γ
def P_expr_kinds (X : Ty_expr_kinds) (F : Ent3) : Ent3 := fun a s γ K => match a, s with
  | [AVal.agg [(Dat.int IntKind.i64 k, Own.none), (Dat.int IntKind.i64 n, Own.none), (Dat.int IntKind.i64 vk, Own.none), (Dat.int IntKind.i64 vn, Own.none), (Dat.str vs, Own.none), (Dat.str tab, Own.none), (Dat.str col, Own.none), (Dat.sl l, Own.none)], AVal.dat (Dat.int IntKind.i64 kv)], [] => X k n vk vn vs tab col l kv γ fun r => K ([(AVal.dat (Dat.sl r), Own.none)], [])
  | a, s => F a s γ K
theorem E_expr_kinds (p : Par) {F : Ent3} (hF : EntOk (cfg p) 45 F) : EntOk (cfg p) 45 (P_expr_kinds Sp.expr_kinds F) := by
  intro a s γ K q h
  unfold P_expr_kinds at h
  split at h
  · rename_i k n vk vn vs tab col l kv
    unfold Sp.expr_kinds at h
    obtain ⟨z, hz, h⟩ := check_of p h
    rw [Option.bind_eq_some_iff] at h
    obtain ⟨r, hr, h⟩ := h
    refine ⟨([(.dat (.sl r), .none)], []), callL_prim (F := kindsF p) rfl ?_, h⟩
    unfold kindsF
    simp only [hz, Option.bind_some, hr, Option.map_some]
  · exact hF _ _ _ _ _ h
abbrev Ty_expr_Safe : Type 1 := Int → Int → Int → Int → ByteArray → ByteArray → ByteArray → List (List Dat) → (γ : Type) → (Bool → Option γ) → Option γ
def P_expr_Safe (X : Ty_expr_Safe) (F : Ent3) : Ent3 := fun a s γ K => match a, s with
  | [AVal.agg [(Dat.int IntKind.i64 k, Own.none), (Dat.int IntKind.i64 n, Own.none), (Dat.int IntKind.i64 vk, Own.none), (Dat.int IntKind.i64 vn, Own.none), (Dat.str vs, Own.none), (Dat.str tab, Own.none), (Dat.str col, Own.none), (Dat.sl l, Own.none)]], [] => X k n vk vn vs tab col l γ fun r => K ([(AVal.dat (Dat.bool r), Own.none)], [])
  | a, s => F a s γ K
theorem E_expr_Safe (p : Par) {F : Ent3} (hF : EntOk (cfg p) 33 F) : EntOk (cfg p) 33 (P_expr_Safe Sp.expr_Safe F) := by
  intro a s γ K q h
  unfold P_expr_Safe at h
  split at h
  · rename_i k n vk vn vs tab col l
    unfold Sp.expr_Safe at h
    obtain ⟨z, hz, h⟩ := check_of p h
    rw [Option.bind_eq_some_iff] at h
    obtain ⟨r, hr, h⟩ := h
    refine ⟨([(.dat (.bool r), .none)], []), callL_prim (F := safeF p) rfl ?_, h⟩
    unfold safeF
    simp only [hz, Option.bind_some, hr, Option.map_some]
  · exact hF _ _ _ _ _ h

end Go.Proofs.YtebfhpjnbmdcoaaGreatDoor

/- How the evaluator is set for the whole program. -/
import Derived.Test.YtppilomaljgkoaaGreatDoorKU
import Derived.Lib.SlicesCompact
set_option linter.unusedVariables false
set_option linter.unusedSimpArgs false
namespace Go.Proofs.YtppilomaljgkoaaGreatDoor
open Go Go.Aev Go.RowKit Go.Sort
def intsOf : List (List Dat) → Option (List Int)
  | [] => some []
  | [.int .i64 n] :: r => (intsOf r).map fun l => n :: l
  | _ => none
def iEnc (n : Int) : List Dat := [.int .i64 n]
def insUp (x : Int) : List Int → List Int
  | [] => [x]
  | y :: l => cond (decide (x ≤ y)) (x :: y :: l) (y :: insUp x l)
def sortUp : List Int → List Int
  | [] => []
  | x :: l => insUp x (sortUp l)
def usesOf (zs : List Int) : List Int := Lib.compact (sortUp zs)
def usesRes (k n vk vn : Int) (vs tab col : ByteArray) (l : List (List Dat)) : Option (List (List Dat)) :=
  (Y.Sp.types_Uses k n vk vn vs tab col l (List (List Dat)) some).bind fun es => (intsOf es).bind fun zs => cond (decide (zs.length ≤ 1000000)) (some ((usesOf zs).map iEnc)) none
noncomputable def usesF : List AVal → Sig → Option (List Ent × Sig) := fun a sg => match a, sg with
  | [.agg [(.int .i64 k, .none), (.int .i64 n, .none), (.int .i64 vk, .none), (.int .i64 vn, .none), (.str vs, .none), (.str tab, .none), (.str col, .none), (.sl l, .none)]], [] => (usesRes k n vk vn vs tab col l).map fun r => ([(.dat (.sl r), .none)], [])
  | _, _ => none
noncomputable def Sp.types_Uses (k n vk vn : Int) (vs tab col : ByteArray) (l : List (List Dat)) (γ : Type) (K : List (List Dat) → Option γ) : Option γ := (usesRes k n vk vn vs tab col l).bind K
noncomputable def primT (p : Par) (f : FuncId) : Option (List AVal → Sig → Option (List Ent × Sig)) :=
  cond (f == 112) (some splitA) <| cond (f == 51) (some (kindsF p)) <| cond (f == 36) (some numberF) <| cond (f == 21) (some usesF) none
noncomputable def cfg (p : Par) : Cfg :=
  { P := Tryz.prog, glob := globT p.m, low := lowT p, esc := escT, loop := loopT, join := fun _ _ => false, ownRes := ownResT, imm := fun t => t == 81, prim := primT p }
theorem cfg_ok (p : Par) : CfgOk (cfg p) := ⟨names_ok, by kernel_rfl, fun f z h => (by cases h), fun g z h n w hn => (by cases h)⟩
theorem globC (p : Par) : ∀ w M, GlobOk (cfg p) w M → GlobOk (cfgZ p) w M := fun w M h => ⟨h.glob, h.low⟩
theorem E_strings_Split (p : Par) {F : Ent3} (hF : EntOk (cfg p) 112 F) : EntOk (cfg p) 112 (P_strings_Split Sp.strings_Split F) := Go.Aev.E_strings_Split rfl hF
theorem E_types_number (p : Par) {F : Ent3} (hF : EntOk (cfg p) 36 F) : EntOk (cfg p) 36 (P_types_number Sp.types_number F) := number_ent rfl hF
abbrev Ty_types_Uses : Type 1 := Int → Int → Int → Int → ByteArray → ByteArray → ByteArray → List (List Dat) → (γ : Type) → (List (List Dat) → Option γ) → Option γ
def P_types_Uses (X : Ty_types_Uses) (F : Ent3) : Ent3 := fun a s γ K => match a, s with
  | [AVal.agg [(Dat.int IntKind.i64 k, Own.none), (Dat.int IntKind.i64 n, Own.none), (Dat.int IntKind.i64 vk, Own.none), (Dat.int IntKind.i64 vn, Own.none), (Dat.str vs, Own.none), (Dat.str tab, Own.none), (Dat.str col, Own.none), (Dat.sl l, Own.none)]], [] => X k n vk vn vs tab col l γ fun r => K ([(AVal.dat (Dat.sl r), Own.none)], [])
  | a, s => F a s γ K
theorem E_types_Uses (p : Par) {F : Ent3} (hF : EntOk (cfg p) 21 F) : EntOk (cfg p) 21 (P_types_Uses Sp.types_Uses F) := by
  intro a s γ K q h
  unfold P_types_Uses at h
  split at h
  · unfold Sp.types_Uses at h
    rw [Option.bind_eq_some_iff] at h
    obtain ⟨r, hr, h⟩ := h
    refine ⟨([(.dat (.sl r), .none)], []), callL_prim (F := usesF) rfl ?_, h⟩
    unfold usesF
    simp only [hr, Option.map_some]
  · exact hF _ _ _ _ _ h
end Go.Proofs.YtppilomaljgkoaaGreatDoor

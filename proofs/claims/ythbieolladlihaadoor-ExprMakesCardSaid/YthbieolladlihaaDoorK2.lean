/- How the evaluator is set for this program; the library's functions at it. -/
import Derived.Test.YthbieolladlihaaDoorAevD
import Derived.Lib.ItoaNum
import Derived.Test.YthbieolladlihaaDoorK1
import Derived.KernelRfl
set_option linter.unusedVariables false
namespace Go.Proofs.YthbieolladlihaaDoor
open Go Go.Aev Go.RowKit Go.Sort
def escT : FuncId → Nat → Bool
  | 4, 3 => true
  | 30, 3 => true
  | 33, 1 => true
  | 50, 10 => true
  | 51, 14 => true
  | 52, 5 => true
  | 65, 12 => true
  | _, _ => false
noncomputable def ap (t ty : Nat) : Nat × TypeId × Own := (t, ty, .id (8 * t + 1) (match Tryd.prog.underlying ty with
  | some (.slice e) => (sizeT Tryd.prog e).getD 0
  | _ => 0))
noncomputable def bx (t ty : Nat) : Nat × TypeId × List Own := (t, ty, List.replicate ((sizeT Tryd.prog ty).getD 0) .none)
noncomputable def loopT : FuncId → Nat → LoopCfg
  | 6, 0 => { mods := [(4, 4, .none), (5, 3, .none)], boxes := [bx 2 26, bx 3 26], keeps := [2, 3], exits := [0] }
  | 17, 0 => { mods := [(6, 4, .none), (7, 3, .none)], boxes := [bx 3 26], keeps := [1, 2, 3], exits := [0] }
  | 26, 0 => { mods := [(17, 3, .none)], boxes := [bx 2 26, bx 3 26], keeps := [2, 3, 15, 16], exits := [0] }
  | 29, 0 => { mods := [(6, 4, .none), (17, 3, .none)], boxes := [], keeps := [1, 2, 15, 16], exits := [0] }
  | 36, 0 => { mods := [(61, 3, .none)], boxes := [], keeps := [0, 2, 3, 59, 60], exits := [0] }
  | 40, 0 => { mods := [(4, 4, .none), (14, 3, .none)], boxes := [], keeps := [1, 12, 13], exits := [0] }
  | 50, 0 => { mods := [(11, 3, .none), (53, 3, .none)], boxes := [], keeps := [0, 1, 2, 10, 52], exits := [0] }
  | 50, 2 => { mods := [(11, 3, .none), (78, 3, .none)], boxes := [], keeps := [0, 2, 10, 77], exits := [2] }
  | 53, 0 => { mods := [(0, 9, .none), (4, 3, .none), (5, 3, .none)], boxes := [], keeps := [1], exits := [] }
  | 60, 0 => { mods := [], boxes := [], keeps := [0, 3], exits := [0] }
  | 64, 0 => { mods := [(1, 86, .none), (4, 3, .none)], boxes := [], keeps := [0], exits := [0] }
  | 65, 0 => { mods := [(1, 86, .none), (13, 3, .none)], boxes := [], keeps := [0, 3, 4, 10, 11, 12, 14, 15, 16], exits := [0] }
  | 65, 2 => { mods := [(1, 86, .none), (13, 3, .none)], boxes := [], keeps := [0, 3, 4, 10, 11, 12, 17], exits := [2] }
  | 66, 0 => { mods := [(2, 3, .none)], boxes := [], keeps := [4], exits := [0] }
  | 70, 1 => { mods := [(4, 3, .none), (8, 3, .none), (10, 3, .none)], boxes := [], keeps := [0, 1, 5, 6, 7, 9], exits := [1] }
  | 86, 2 => { mods := [(4, 3, .none), (8, 99, .none), (10, 3, .none)], boxes := [], keeps := [0, 1, 5, 6, 7], exits := [2] }
  | 86, 0 => { mods := [(8, 99, .none), (9, 3, .none)], boxes := [], keeps := [0, 1, 5, 6, 7], exits := [0] }
  | 87, 0 => { mods := [(4, 3, .none), (8, 3, .none)], boxes := [], keeps := [0, 1, 7], exits := [0] }
  | _, _ => { mods := [], boxes := [], keeps := [], exits := [] }

/-- what is not known of the world: MaxLen; the type and the mark of the table of powers -/
structure Par where
  m : Int
  T : TypeId
  fr : Nat × Nat

def globT (m : Int) : Nat → Option (List Dat)
  | 0 => some [.str (bs []), .str (bs []), .str (bs [67, 79, 85, 78, 84]), .str (bs [83, 85, 77]), .str (bs [77, 73, 78]), .str (bs [77, 65, 88])]
  | 1 => some [.str (bs []), .str (bs [79, 82]), .str (bs [65, 78, 68]), .str (bs []), .str (bs [61]), .str (bs [60, 62]), .str (bs [60]), .str (bs [60, 61]), .str (bs [62]), .str (bs [62, 61]), .str (bs [43]), .str (bs [45]), .str (bs [42]), .str (bs [47]), .str (bs [37])]
  | 3 => some [.int .i64 m]
  | _ => none
def pow10O (p : Par) : Obj := .cells (Lib.pow10Tab.map fun z => Value.int .u64 z).toArray p.T p.fr
def ownResT : FuncId → Option (Nat × Nat)
  | 28 => some (0, 8)
  | 34 => some (0, 8)
  | _ => none
/-- as far as Check reaches -/
noncomputable def cfgZ (p : Par) : Cfg :=
  { P := Tryd.prog, glob := globT p.m, low := fun i => cond (i == 2) (some (pow10O p)) none, esc := escT, loop := loopT, join := fun _ _ => false, ownRes := fun _ => none, prim := fun f => cond (f == 88) (some splitA) none }

theorem names_ok : ∀ (g : Nat) (fn : Func), Tryd.prog.funcs[g]? = some fn → (fn.name == "runtime.NumGoroutine") = false := by
  intro g fn h
  have hall : (Tryd.prog.funcs.all fun fn => !(fn.name == "runtime.NumGoroutine")) = true := by kernel_rfl
  rw [Array.all_eq_true_iff_forall_mem] at hall
  have := hall fn (Array.mem_of_getElem? h)
  simpa using this

theorem cfgZ_ok (p : Par) : CfgOk (cfgZ p) := ⟨names_ok, by kernel_rfl, fun f z h => (by cases h), fun g z h n w hn => (by cases h)⟩

theorem max_cell (p : Par) {w : World} {M : Nat → Nat} (hg : GlobOk (cfgZ p) w M) : w.cell? ⟨3, 0, none⟩ = some (.int .i64 p.m) := by
  have := hg.glob 3 [.int .i64 p.m] rfl
  cases this with
  | imm ws hs hc hv =>
    have h3 := hc 0 (by simp)
    have h4 := hv 0 _ rfl
    generalize ws 0 = u at h3 h4
    cases h4
    have h5 := h3.1
    rw [show (Addr.add ⟨3, 0, none⟩ 0) = ⟨3, 0, none⟩ from rfl] at h5
    exact h5

theorem splitZ (p : Par) : CallAt (cfgZ p) 88 splitA := splitA_ok (T := 9) rfl fun s sep w _ hg h1 h2 => Tryd.strings_Split s sep p.m w h1 (max_cell p hg) h2

theorem primZ_ok (p : Par) : ∀ f F, (cfgZ p).prim f = some F → CallAt (cfgZ p) f F := by
  intro f F h
  have h : cond (f == 88) (some splitA) none = some F := h
  cases hf : (f == 88) with
  | true =>
    rw [hf] at h
    cases h
    have : f = 88 := by simpa using hf
    rw [this]; exact splitZ p
  | false => rw [hf] at h; cases h

theorem Z.E_strings_Split (p : Par) {F : Ent3} (hF : EntOk (cfgZ p) 88 F) : EntOk (cfgZ p) 88 (P_strings_Split Sp.strings_Split F) := Go.Aev.E_strings_Split rfl hF

end Go.Proofs.YthbieolladlihaaDoor

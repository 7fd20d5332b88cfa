/- How the evaluator is set for this program. -/
import Derived.Test.YtcglmokfjohdaaaAevD
import Derived.Test.YtcglmokfjohdaaaK1
import Derived.KernelRfl
set_option linter.unusedVariables false
set_option linter.unusedSimpArgs false
namespace Go.Proofs.Ytcglmokfjohdaaa
open Go.Aev Go.RowKit
def escT : FuncId → Nat → Bool
  | 14, 11 => true
  | 23, 2 => true
  | _, _ => false
noncomputable def ap (t ty : Nat) : Nat × TypeId × Own := (t, ty, .id (8 * t + 1) (match Try.prog.underlying ty with
  | some (.slice e) => (sizeT Try.prog e).getD 0
  | _ => 0))
noncomputable def bx (t ty : Nat) : Nat × TypeId × List Own := (t, ty, List.replicate ((sizeT Try.prog ty).getD 0) .none)
noncomputable def loopT : FuncId → Nat → LoopCfg
  | 7, 0 => { mods := [(2, 4, .none), (3, 3, .none)], boxes := [], keeps := [0], exits := [0] }
  | 8, 0 => { mods := [(2, 4, .none), (3, 3, .none)], boxes := [], keeps := [0], exits := [0] }
  | 10, 0 => { mods := [ap 5 23, (19, 3, .none)], boxes := [], keeps := [17, 18], exits := [0] }
  | 11, 0 => { mods := [(2, 4, .none), (3, 3, .none)], boxes := [], keeps := [0], exits := [0] }
  | 13, 0 => { mods := [(3, 3, .none), (11, 3, .none)], boxes := [], keeps := [9, 10], exits := [0] }
  | 14, 0 => { mods := [ap 7 22, (8, 3, .none)], boxes := [], keeps := [5, 6], exits := [0] }
  | 15, 3 => { mods := [ap 3 23, (7, 3, .none)], boxes := [], keeps := [0, 4, 6], exits := [3] }
  | 15, 0 => { mods := [ap 3 23, (4, 3, .none)], boxes := [], keeps := [0], exits := [0] }
  | 17, 0 => { mods := [ap 2 22, (3, 3, .none), (4, 4, .none), (5, 3, .none), ap 6 22, (7, 3, .none)], boxes := [], keeps := [0], exits := [0] }
  | 20, 0 => { mods := [(4, 3, .none), (5, 3, .none)], boxes := [], keeps := [0, 1], exits := [0] }
  | 21, 0 => { mods := [(9, 3, .none), (15, 3, .none)], boxes := [], keeps := [0, 1, 3, 13, 14], exits := [0] }
  | 22, 0 => { mods := [(8, 3, .none), (9, 3, .none)], boxes := [], keeps := [0, 1, 2, 3], exits := [0] }
  | 23, 0 => { mods := [ap 7 22, (21, 3, .none)], boxes := [], keeps := [2, 19, 20], exits := [0] }
  | 26, 0 => { mods := [ap 4 22, (5, 4, .none), ap 6 22, (7, 3, .none)], boxes := [], keeps := [0, 1], exits := [0] }
  | 28, 0 => { mods := [(4, 4, .none), (5, 3, .none)], boxes := [], keeps := [0, 1], exits := [0] }
  | 29, 0 => { mods := [(3, 51, .none), (4, 51, .none), ap 5 51], boxes := [], keeps := [], exits := [0] }
  | 31, 1 => { mods := [ap 0 23, (29, 3, .none)], boxes := [], keeps := [5], exits := [1] }
  | 38, 1 => { mods := [(4, 78, .none), (22, 3, .none)], boxes := [bx 2 56, bx 3 56], keeps := [0, 2, 3, 20, 21], exits := [1] }
  | 39, 0 => { mods := [(4, 4, .none), (13, 3, .none)], boxes := [], keeps := [0, 1, 12], exits := [0] }
  | 40, 1 => { mods := [(6, 3, .none)], boxes := [bx 2 56, bx 4 56], keeps := [0, 2, 4], exits := [1] }
  | 41, 0 => { mods := [(6, 3, .none), (13, 3, .none)], boxes := [], keeps := [0, 1, 2, 11, 12], exits := [0] }
  | 45, 0 => { mods := [(2, 3, .none), (8, 3, .none)], boxes := [], keeps := [3, 6, 7], exits := [0] }
  | 49, 2 => { mods := [ap 6 22, (27, 3, .none)], boxes := [], keeps := [25, 26], exits := [2] }
  | 49, 0 => { mods := [(3, 3, .none), (11, 3, .none)], boxes := [], keeps := [0, 9, 10], exits := [0] }
  | 52, 0 => { mods := [(4, 3, .none), (8, 3, .none)], boxes := [], keeps := [0, 1, 7], exits := [0] }
  | 57, 0 => { mods := [(4, 3, .none), (8, 3, .none)], boxes := [], keeps := [0, 1, 7], exits := [0] }
  | _, _ => { mods := [], boxes := [], keeps := [], exits := [] }

structure Par where
  m : Int
def ownResT : FuncId → Option (Nat × Nat)
  | 50 => some (0, 1)
  | 10 => some (0, 1)
  | 31 => some (0, 1)
  | _ => none
def ownArgT : FuncId → Option Nat
  | 31 => some 1
  | _ => none
def nilGrowT : FuncId → Option (Nat × Nat)
  | 58 => some (3, 32)
  | _ => none

theorem names_ok : ∀ (g : Nat) (fn : Func), Try.prog.funcs[g]? = some fn → (fn.name == "runtime.NumGoroutine") = false := by
  intro g fn h
  have hall : (Try.prog.funcs.all fun fn => !(fn.name == "runtime.NumGoroutine")) = true := by kernel_rfl
  rw [Array.all_eq_true_iff_forall_mem] at hall
  have := hall fn (Array.mem_of_getElem? h)
  simpa using this

/-- the sort's comparison, by itself: draws are told -/
noncomputable def cfgZ (_p : Par) : Cfg :=
  { P := Try.prog, glob := fun _ => none, esc := escT, loop := loopT, join := fun _ _ => false, ownRes := fun _ => none, dr := true, prim := fun _ => none }

theorem cfgZ_ok (p : Par) : CfgOk (cfgZ p) := ⟨names_ok, (by kernel_rfl), fun f z h => (by cases h), fun g z h => (by cases h)⟩
theorem primZ_ok (p : Par) : ∀ f F, (cfgZ p).prim f = some F → CallAt (cfgZ p) f F := fun f F h => by cases h
end Go.Proofs.Ytcglmokfjohdaaa

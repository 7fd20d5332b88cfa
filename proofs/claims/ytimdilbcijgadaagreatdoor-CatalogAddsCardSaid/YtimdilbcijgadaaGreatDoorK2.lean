/- How the evaluator is set for this program; the library's functions at it. -/
import Derived.Test.YtimdilbcijgadaaGreatDoorAevD
import Derived.Test.YtimdilbcijgadaaGreatDoorAevE
import Derived.Test.YtimdilbcijgadaaGreatDoorK1
import Derived.KernelRfl
set_option linter.unusedVariables false
namespace Go.Proofs.YtimdilbcijgadaaGreatDoor
open Go Go.Aev Go.RowKit Go.Sort
def escT : FuncId → Nat → Bool
  | 11, 3 => true
  | 14, 1 => true
  | 38, 14 => true
  | 49, 8 => true
  | 111, 11 => true
  | 119, 9 => true
  | 120, 11 => true
  | _, _ => false
noncomputable def ap (t ty : Nat) : Nat × TypeId × Own := (t, ty, .id (8 * t + 1) (match Tryz.prog.underlying ty with
  | some (.slice e) => (sizeT Tryz.prog e).getD 0
  | _ => 0))
noncomputable def bx (t ty : Nat) : Nat × TypeId × List Own := (t, ty, List.replicate ((sizeT Tryz.prog ty).getD 0) .none)
noncomputable def loopT : FuncId → Nat → LoopCfg
  | 3, 0 => { mods := [(4, 4, .none), (9, 3, .none)], boxes := [bx 6 29], keeps := [0, 6, 7, 8], exits := [0] }
  | 5, 0 => { mods := [(2, 4, .none), ap 5 27, (6, 3, .none)], boxes := [bx 1 29], keeps := [1, 3, 4], exits := [0] }
  | 8, 2 => { mods := [(2, 4, .none), (4, 3, .none)], boxes := [], keeps := [0, 3], exits := [2] }
  | 8, 0 => { mods := [(2, 4, .none), (3, 3, .none)], boxes := [], keeps := [0], exits := [0] }
  | 10, 2 => { mods := [(2, 4, .none), (4, 3, .none)], boxes := [], keeps := [0, 3], exits := [2] }
  | 10, 0 => { mods := [(2, 4, .none), (3, 3, .none)], boxes := [], keeps := [0], exits := [0] }
  | 12, 0 => { mods := [(4, 3, .none), (5, 3, .none)], boxes := [], keeps := [0, 1], exits := [0] }
  | 15, 4 => { mods := [(2, 4, .none), (6, 3, .none)], boxes := [bx 1 29], keeps := [1], exits := [4] }
  | 15, 2 => { mods := [(2, 4, .none), (5, 3, .none)], boxes := [bx 1 29, bx 4 57], keeps := [1, 3, 4], exits := [2] }
  | 15, 0 => { mods := [(2, 4, .none), (3, 3, .none)], boxes := [bx 1 29], keeps := [1], exits := [0] }
  | 16, 0 => { mods := [(4, 4, .none), (5, 3, .none)], boxes := [], keeps := [0, 1], exits := [0] }
  | 17, 0 => { mods := [(4, 4, .none), (5, 3, .none)], boxes := [], keeps := [0, 1], exits := [0] }
  | 18, 0 => { mods := [(12, 3, .none)], boxes := [], keeps := [1, 5, 11], exits := [0] }
  | 19, 0 => { mods := [ap 5 26, (6, 3, .none)], boxes := [bx 2 29], keeps := [1, 2], exits := [0] }
  | 20, 0 => { mods := [ap 3 72, (9, 3, .none)], boxes := [bx 1 29], keeps := [1, 7, 8], exits := [0] }
  | 21, 0 => { mods := [(3, 9, .none), (4, 3, .none)], boxes := [bx 1 29], keeps := [1], exits := [0] }
  | 22, 0 => { mods := [(4, 4, .none), (19, 3, .none)], boxes := [], keeps := [0, 17, 18], exits := [0] }
  | 23, 0 => { mods := [(4, 4, .none), (5, 3, .none)], boxes := [], keeps := [0, 1], exits := [0] }
  | 26, 0 => { mods := [ap 2 27, (3, 4, .none), ap 4 27, (5, 3, .none), (6, 3, .none)], boxes := [], keeps := [0], exits := [0] }
  | 27, 0 => { mods := [(4, 4, .none), (5, 3, .none)], boxes := [], keeps := [0, 1], exits := [0] }
  | 28, 0 => { mods := [ap 3 51, (4, 3, .none)], boxes := [], keeps := [0], exits := [0] }
  | 30, 0 => { mods := [(4, 3, .none), (8, 3, .none)], boxes := [], keeps := [0, 1, 7], exits := [0] }
  | 34, 0 => { mods := [(11, 3, .none)], boxes := [], keeps := [0, 1, 5, 9, 10], exits := [0] }
  | 37, 0 => { mods := [(3, 3, .none), (11, 3, .none)], boxes := [], keeps := [9, 10], exits := [0] }
  | 41, 0 => { mods := [(11, 3, .none)], boxes := [], keeps := [0, 1, 5, 9, 10], exits := [0] }
  | 44, 0 => { mods := [(2, 4, .none), (3, 3, .none)], boxes := [], keeps := [0], exits := [0] }
  | 46, 0 => { mods := [(3, 27, .none), (4, 27, .none), ap 5 27], boxes := [], keeps := [], exits := [0] }
  | 49, 3 => { mods := [(65, 3, .none)], boxes := [], keeps := [1, 8, 63, 64], exits := [3] }
  | 49, 1 => { mods := [(5, 3, .none), (41, 3, .none)], boxes := [], keeps := [0, 1, 39, 40], exits := [1] }
  | 52, 0 => { mods := [(2, 4, .none), (3, 3, .none)], boxes := [], keeps := [0], exits := [0] }
  | 53, 0 => { mods := [(6, 4, .none), (17, 3, .none)], boxes := [], keeps := [1, 2, 15, 16], exits := [0] }
  | 55, 0 => { mods := [ap 2 44, (3, 25, .none), ap 4 44, (5, 49, .none), (13, 3, .none)], boxes := [], keeps := [0, 11, 12], exits := [0] }
  | 56, 0 => { mods := [ap 2 38, (3, 3, .none), (4, 4, .none), (5, 3, .none), ap 6 38, (7, 3, .none)], boxes := [], keeps := [0], exits := [0] }
  | 57, 4 => { mods := [ap 4 49, (7, 3, .none)], boxes := [], keeps := [5], exits := [4] }
  | 57, 2 => { mods := [ap 4 49], boxes := [], keeps := [0, 5], exits := [2] }
  | 57, 0 => { mods := [ap 4 49, ap 5 117, (6, 3, .none)], boxes := [], keeps := [0], exits := [0] }
  | 59, 0 => { mods := [(3, 3, .none), (4, 3, .none)], boxes := [], keeps := [0], exits := [0] }
  | 64, 0 => { mods := [], boxes := [], keeps := [0, 3], exits := [0] }
  | 66, 0 => { mods := [(4, 3, .none), (8, 3, .none)], boxes := [], keeps := [0, 1, 7], exits := [0] }
  | 67, 0 => { mods := [(4, 3, .none), (8, 3, .none)], boxes := [], keeps := [0, 1, 7], exits := [0] }
  | 69, 0 => { mods := [(2, 4, .none), (4, 3, .none)], boxes := [], keeps := [0, 3], exits := [0] }
  | 71, 3 => { mods := [ap 3 49, (7, 3, .none)], boxes := [], keeps := [0, 4, 6], exits := [3] }
  | 71, 0 => { mods := [ap 3 49, (4, 3, .none)], boxes := [], keeps := [0], exits := [0] }
  | 72, 0 => { mods := [(4, 3, .none), (5, 3, .none)], boxes := [], keeps := [0, 1], exits := [0] }
  | 80, 0 => { mods := [(4, 4, .none), (13, 3, .none)], boxes := [], keeps := [0, 1, 12], exits := [0] }
  | 81, 0 => { mods := [(6, 4, .none), (17, 3, .none)], boxes := [], keeps := [1, 2, 15, 16], exits := [0] }
  | 86, 1 => { mods := [(6, 3, .none)], boxes := [bx 2 76, bx 4 76], keeps := [0, 2, 4], exits := [1] }
  | 95, 0 => { mods := [(4, 3, .none), (8, 3, .none)], boxes := [], keeps := [0, 1, 7], exits := [0] }
  | 99, 0 => { mods := [(4, 4, .none), (13, 3, .none)], boxes := [], keeps := [0, 1, 12], exits := [0] }
  | 100, 0 => { mods := [ap 2 27, (3, 3, .none), (4, 25, .none), (7, 3, .none), ap 8 27, (28, 3, .none)], boxes := [], keeps := [0, 6, 27], exits := [0] }
  | 103, 0 => { mods := [(4, 3, .none), (8, 3, .none)], boxes := [], keeps := [0, 1, 7], exits := [0] }
  | 107, 0 => { mods := [(1, 3, .none), (2, 3, .none), (3, 3, .none), (10, 4, .none), (11, 4, .none)], boxes := [], keeps := [0, 4], exits := [] }
  | 109, 0 => { mods := [(6, 3, .none), (13, 3, .none)], boxes := [], keeps := [0, 1, 2, 11, 12], exits := [0] }
  | 111, 0 => { mods := [ap 7 38, (8, 3, .none)], boxes := [], keeps := [5, 6], exits := [0] }
  | 115, 0 => { mods := [ap 5 49, (19, 3, .none)], boxes := [], keeps := [17, 18], exits := [0] }
  | 116, 0 => { mods := [(0, 9, .none), (10, 3, .none)], boxes := [], keeps := [1, 2, 3, 9], exits := [0] }
  | 117, 2 => { mods := [(9, 3, .none)], boxes := [], keeps := [0, 1, 2, 3, 8], exits := [2] }
  | 117, 0 => { mods := [(8, 3, .none)], boxes := [], keeps := [0, 1, 2, 3], exits := [0] }
  | 118, 2 => { mods := [(12, 3, .none)], boxes := [], keeps := [0, 3, 8, 9], exits := [2] }
  | 118, 0 => { mods := [(11, 3, .none)], boxes := [], keeps := [0, 3, 8, 9, 10], exits := [0] }
  | 119, 0 => { mods := [(11, 3, .none)], boxes := [], keeps := [0, 1, 8, 9, 10], exits := [0] }
  | 121, 0 => { mods := [(8, 3, .none), (9, 3, .none)], boxes := [], keeps := [0], exits := [0] }
  | 122, 6 => { mods := [(12, 3, .none)], boxes := [], keeps := [0, 1, 2, 3, 9, 10], exits := [6] }
  | 122, 4 => { mods := [(11, 3, .none)], boxes := [], keeps := [0, 1, 2, 3, 9, 10], exits := [4] }
  | 122, 2 => { mods := [(9, 3, .none)], boxes := [], keeps := [0, 1, 2, 3, 10], exits := [2] }
  | 122, 0 => { mods := [(8, 4, .none), (9, 3, .none), (10, 3, .none)], boxes := [], keeps := [0, 1, 2, 3], exits := [0] }
  | 123, 4 => { mods := [(12, 3, .none)], boxes := [], keeps := [0, 1, 4, 11], exits := [4] }
  | 123, 2 => { mods := [(11, 3, .none)], boxes := [], keeps := [0, 1, 4, 12], exits := [2] }
  | 123, 0 => { mods := [(11, 3, .none), (12, 3, .none)], boxes := [], keeps := [0, 1, 4], exits := [0] }
  | 124, 8 => { mods := [(13, 3, .none)], boxes := [], keeps := [0, 1, 4, 12], exits := [8] }
  | 124, 6 => { mods := [(12, 3, .none)], boxes := [], keeps := [0, 1, 4, 13], exits := [6] }
  | 124, 4 => { mods := [(12, 3, .none), (13, 3, .none)], boxes := [], keeps := [0, 1, 4], exits := [4] }
  | 124, 2 => { mods := [(13, 3, .none)], boxes := [], keeps := [0, 1, 4, 12], exits := [2] }
  | 124, 0 => { mods := [(12, 3, .none)], boxes := [], keeps := [0, 1, 4, 13], exits := [0] }
  | 127, 0 => { mods := [(2, 3, .none), (8, 3, .none)], boxes := [], keeps := [3, 6, 7], exits := [0] }
  | 131, 1 => { mods := [(4, 153, .none), (22, 3, .none)], boxes := [bx 2 76, bx 3 76], keeps := [0, 2, 3, 20, 21], exits := [1] }
  | 132, 0 => { mods := [(4, 3, .none), (8, 3, .none)], boxes := [], keeps := [0, 1, 7], exits := [0] }
  | 133, 1 => { mods := [ap 0 49, (29, 3, .none)], boxes := [], keeps := [5], exits := [1] }
  | 134, 0 => { mods := [(0, 9, .none), (7, 3, .none)], boxes := [], keeps := [1, 6], exits := [0] }
  | 135, 0 => { mods := [(0, 9, .none), (4, 3, .none), (5, 3, .none)], boxes := [], keeps := [1], exits := [] }
  | 137, 0 => { mods := [(10, 3, .none)], boxes := [], keeps := [0, 2, 3, 4], exits := [0] }
  | 145, 0 => { mods := [(2, 3, .none)], boxes := [], keeps := [4], exits := [0] }
  | 148, 1 => { mods := [(4, 3, .none), (8, 3, .none), (10, 3, .none)], boxes := [], keeps := [0, 1, 5, 6, 7, 9], exits := [1] }
  | 154, 2 => { mods := [(4, 3, .none), (8, 151, .none), (10, 3, .none)], boxes := [], keeps := [0, 1, 5, 6, 7], exits := [2] }
  | 154, 0 => { mods := [(8, 151, .none), (9, 3, .none)], boxes := [], keeps := [0, 1, 5, 6, 7], exits := [0] }
  | 156, 2 => { mods := [(6, 151, .none), (7, 151, .none), (8, 3, .none)], boxes := [], keeps := [4], exits := [2] }
  | 156, 0 => { mods := [(4, 151, .none), (5, 3, .none)], boxes := [], keeps := [0], exits := [0] }
  | _, _ => { mods := [], boxes := [], keeps := [], exits := [] }

/-- what is not known of the world: MaxLen -/
structure Par where
  m : Int
def globT (m : Int) : Nat → Option (List Dat)
  | 0 => some [.int .i64 m]
  | _ => none
def ownResT : FuncId → Option (Nat × Nat)
  | 96 => some (0, 1)
  | 115 => some (0, 1)
  | 133 => some (0, 1)
  | _ => none
def ownArgT : FuncId → Option Nat
  | 133 => some 1
  | _ => none

theorem names_ok : ∀ (g : Nat) (fn : Func), Tryz.prog.funcs[g]? = some fn → (fn.name == "runtime.NumGoroutine") = false := by
  intro g fn h
  have hall : (Tryz.prog.funcs.all fun fn => !(fn.name == "runtime.NumGoroutine")) = true := by kernel_rfl
  rw [Array.all_eq_true_iff_forall_mem] at hall
  have := hall fn (Array.mem_of_getElem? h)
  simpa using this

/-- the sort's comparison, by itself: draws are told -/
noncomputable def cfgZ (_p : Par) : Cfg :=
  { P := Tryz.prog, glob := fun _ => none, esc := escT, loop := loopT, join := fun _ _ => false, ownRes := fun _ => none, dr := true, prim := fun _ => none }
theorem cfgZ_ok (p : Par) : CfgOk (cfgZ p) := ⟨names_ok, (by kernel_rfl), fun f z h => (by cases h), fun g z h => (by cases h)⟩
theorem primZ_ok (p : Par) : ∀ f F, (cfgZ p).prim f = some F → CallAt (cfgZ p) f F := fun f F h => by cases h

/-- what a page is read and filled by -/
noncomputable def cfgY (_p : Par) : Cfg :=
  { P := Tryz.prog, glob := fun _ => none, esc := escT, loop := loopT, join := fun _ _ => false, ownRes := ownResT, ownArg := ownArgT, prim := fun _ => none }
theorem ownArg_ok {f : FuncId} {z : Nat} (h : ownArgT f = some z) : ownResT f = some (0, z) := by
  unfold ownArgT at h
  split at h
  · cases h; rfl
  · cases h
theorem cfgY_ok (p : Par) : CfgOk (cfgY p) := by
  refine ⟨names_ok, by kernel_rfl, fun f z h => ?_, fun g z h => (by cases h)⟩
  have h : ownArgT f = some z := h
  unfold ownArgT at h
  split at h
  · cases h; exact ⟨rfl, rfl⟩
  · cases h
theorem primY_ok (p : Par) : ∀ f F, (cfgY p).prim f = some F → CallAt (cfgY p) f F := fun f F h => by cases h
end Go.Proofs.YtimdilbcijgadaaGreatDoor

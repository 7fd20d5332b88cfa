/- How the evaluator is set for this program; the library's functions at it. -/
import Derived.Test.YtebfhpjnbmdcoaaGreatDoorAevD
import Derived.Test.YtebfhpjnbmdcoaaGreatDoorK1
import Derived.KernelRfl
set_option linter.unusedVariables false
namespace Go.Proofs.YtebfhpjnbmdcoaaGreatDoor
open Go Go.Aev Go.RowKit Go.Sort
def escT : FuncId → Nat → Bool
  | 6, 3 => true
  | 43, 1 => true
  | 44, 3 => true
  | 84, 14 => true
  | _, _ => false
noncomputable def ap (t ty : Nat) : Nat × TypeId × Own := (t, ty, .id (8 * t + 1) (match Tryz.prog.underlying ty with
  | some (.slice e) => (sizeT Tryz.prog e).getD 0
  | _ => 0))
noncomputable def bx (t ty : Nat) : Nat × TypeId × List Own := (t, ty, List.replicate ((sizeT Tryz.prog ty).getD 0) .none)
noncomputable def loopT : FuncId → Nat → LoopCfg
  | 3, 0 => { mods := [(4, 4, .none), (5, 4, .none), (6, 4, .none), (7, 3, .none)], boxes := [], keeps := [0, 1], exits := [0] }
  | 7, 2 => { mods := [(4, 4, .none), (5, 31, .none), (42, 3, .none)], boxes := [], keeps := [1, 40, 41], exits := [2] }
  | 7, 0 => { mods := [ap 7 22, ap 8 22, (23, 3, .none)], boxes := [], keeps := [1, 4, 5, 21, 22], exits := [0] }
  | 8, 0 => { mods := [(2, 4, .none), (3, 3, .none)], boxes := [bx 1 30], keeps := [1], exits := [0] }
  | 9, 0 => { mods := [(4, 3, .none)], boxes := [bx 2 30, bx 3 30], keeps := [0, 2, 3], exits := [0] }
  | 16, 0 => { mods := [ap 4 23, (5, 31, .none), ap 6 23, (13, 3, .none)], boxes := [], keeps := [1, 11, 12], exits := [0] }
  | 19, 0 => { mods := [(6, 4, .none), (7, 3, .none)], boxes := [bx 3 30], keeps := [1, 2, 3], exits := [0] }
  | 27, 0 => { mods := [ap 5 22, (6, 3, .none)], boxes := [bx 2 30], keeps := [1, 2], exits := [0] }
  | 32, 0 => { mods := [(5, 3, .none), (6, 4, .none), (8, 3, .none), (15, 3, .none)], boxes := [bx 4 28, bx 7 28], keeps := [1, 4, 7, 13, 14], exits := [0] }
  | 37, 0 => { mods := [(5, 4, .none), ap 6 23, (27, 3, .none)], boxes := [bx 2 30, bx 4 28], keeps := [1, 2, 4, 25, 26], exits := [0] }
  | 40, 0 => { mods := [(6, 3, .none), (7, 4, .none), (8, 3, .none), (9, 3, .none)], boxes := [bx 3 30], keeps := [1, 2, 3], exits := [0] }
  | 51, 0 => { mods := [(5, 4, .none), (7, 4, .none), (15, 3, .none)], boxes := [bx 4 28, bx 6 81], keeps := [0, 4, 6, 13, 14], exits := [0] }
  | 53, 0 => { mods := [(2, 3, .none), (8, 3, .none)], boxes := [], keeps := [3, 6, 7], exits := [0] }
  | 57, 0 => { mods := [(4, 4, .none), (14, 3, .none)], boxes := [], keeps := [1, 12, 13], exits := [0] }
  | 58, 0 => { mods := [(61, 3, .none)], boxes := [], keeps := [0, 2, 3, 59, 60], exits := [0] }
  | 66, 0 => { mods := [(2, 4, .none), (3, 3, .none)], boxes := [], keeps := [0], exits := [0] }
  | 75, 0 => { mods := [(2, 4, .none), (4, 3, .none)], boxes := [], keeps := [0, 3], exits := [0] }
  | 86, 0 => { mods := [], boxes := [], keeps := [0, 3], exits := [0] }
  | 92, 0 => { mods := [(4, 3, .none), (8, 3, .none)], boxes := [], keeps := [0, 1, 7], exits := [0] }
  | 94, 0 => { mods := [(0, 9, .none), (10, 3, .none)], boxes := [], keeps := [1, 2, 3, 9], exits := [0] }
  | 95, 0 => { mods := [(0, 9, .none), (7, 3, .none)], boxes := [], keeps := [1, 6], exits := [0] }
  | 96, 0 => { mods := [(0, 9, .none), (4, 3, .none), (5, 3, .none)], boxes := [], keeps := [1], exits := [] }
  | 98, 0 => { mods := [(2, 3, .none)], boxes := [], keeps := [4], exits := [0] }
  | 101, 1 => { mods := [(4, 3, .none), (8, 3, .none), (10, 3, .none)], boxes := [], keeps := [0, 1, 5, 6, 7, 9], exits := [1] }
  | 106, 2 => { mods := [(4, 3, .none), (8, 111, .none), (10, 3, .none)], boxes := [], keeps := [0, 1, 5, 6, 7], exits := [2] }
  | 106, 0 => { mods := [(8, 111, .none), (9, 3, .none)], boxes := [], keeps := [0, 1, 5, 6, 7], exits := [0] }
  | 108, 2 => { mods := [(6, 111, .none), (7, 111, .none), (8, 3, .none)], boxes := [], keeps := [4], exits := [2] }
  | 108, 0 => { mods := [(4, 111, .none), (5, 3, .none)], boxes := [], keeps := [0], exits := [0] }
  | _, _ => { mods := [], boxes := [], keeps := [], exits := [] }

/-- what is not known of the world: MaxLen -/
structure Par where
  m : Int

def globT (m : Int) : Nat → Option (List Dat)
  | 0 => some [.int .i64 1, .int .i64 0, .int .i64 2]
  | 1 => some [.int .i64 0, .int .i64 0, .int .i64 0, .int .i64 0, .int .i64 1, .int .i64 2, .int .i64 0, .int .i64 2, .int .i64 2]
  | 2 => some [.int .i64 m]
  | _ => none
def ownResT : FuncId → Option (Nat × Nat)
  | 36 => some (0, 8)
  | 27 => some (0, 8)
  | _ => none
/-- as far as Check reaches -/
noncomputable def cfgZ (p : Par) : Cfg :=
  { P := Tryz.prog, glob := globT p.m, low := fun _ => none, esc := escT, loop := loopT, join := fun _ _ => false, ownRes := fun _ => none, prim := fun f => cond (f == 93) (some splitA) none }

theorem names_ok : ∀ (g : Nat) (fn : Func), Tryz.prog.funcs[g]? = some fn → (fn.name == "runtime.NumGoroutine") = false := by
  intro g fn h
  have hall : (Tryz.prog.funcs.all fun fn => !(fn.name == "runtime.NumGoroutine")) = true := by kernel_rfl
  rw [Array.all_eq_true_iff_forall_mem] at hall
  have := hall fn (Array.mem_of_getElem? h)
  simpa using this

theorem cfgZ_ok (p : Par) : CfgOk (cfgZ p) := ⟨names_ok, by kernel_rfl, fun f z h => (by cases h), fun g z h n w hn => (by cases h)⟩

theorem max_cell (p : Par) {w : World} {M : Nat → Nat} (hg : GlobOk (cfgZ p) w M) : w.cell? ⟨2, 0, none⟩ = some (.int .i64 p.m) := by
  have := hg.glob 2 [.int .i64 p.m] rfl
  cases this with
  | imm ws hs hc hv =>
    have h3 := hc 0 (by simp)
    have h4 := hv 0 _ rfl
    generalize ws 0 = u at h3 h4
    cases h4
    have h5 := h3.1
    rw [show (Addr.add ⟨2, 0, none⟩ 0) = ⟨2, 0, none⟩ from rfl] at h5
    exact h5

theorem splitZ (p : Par) : CallAt (cfgZ p) 93 splitA := splitA_ok (T := 9) rfl fun s sep w _ hg h1 h2 => Tryz.strings_Split s sep p.m w h1 (max_cell p hg) h2

theorem primZ_ok (p : Par) : ∀ f F, (cfgZ p).prim f = some F → CallAt (cfgZ p) f F := by
  intro f F h
  have h : cond (f == 93) (some splitA) none = some F := h
  cases hf : (f == 93) with
  | true =>
    rw [hf] at h
    cases h
    have : f = 93 := by simpa using hf
    rw [this]; exact splitZ p
  | false => rw [hf] at h; cases h

theorem Z.E_strings_Split (p : Par) {F : Ent3} (hF : EntOk (cfgZ p) 93 F) : EntOk (cfgZ p) 93 (P_strings_Split Sp.strings_Split F) := Go.Aev.E_strings_Split rfl hF

end Go.Proofs.YtebfhpjnbmdcoaaGreatDoor

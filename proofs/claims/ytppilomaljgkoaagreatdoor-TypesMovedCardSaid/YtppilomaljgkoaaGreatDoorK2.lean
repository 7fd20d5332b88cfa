/- How the evaluator is set for this program; the library's functions at it. -/
import Derived.Test.YtppilomaljgkoaaGreatDoorAevD
import Derived.Test.YtppilomaljgkoaaGreatDoorK1
import Derived.KernelRfl
set_option linter.unusedVariables false
namespace Go.Proofs.YtppilomaljgkoaaGreatDoor
open Go Go.Aev Go.RowKit Go.Sort
def escT : FuncId → Nat → Bool
  | 10, 4 => true
  | 10, 5 => true
  | 12, 3 => true
  | 13, 3 => true
  | 18, 3 => true
  | 35, 29 => true
  | 35, 72 => true
  | 36, 3 => true
  | 44, 27 => true
  | 46, 3 => true
  | 56, 3 => true
  | 62, 1 => true
  | 65, 7 => true
  | 66, 9 => true
  | 103, 14 => true
  | _, _ => false
noncomputable def ap (t ty : Nat) : Nat × TypeId × Own := (t, ty, .id (8 * t + 1) (match Tryz.prog.underlying ty with
  | some (.slice e) => (sizeT Tryz.prog e).getD 0
  | _ => 0))
noncomputable def bx (t ty : Nat) : Nat × TypeId × List Own := (t, ty, List.replicate ((sizeT Tryz.prog ty).getD 0) .none)
noncomputable def bxo (t ty i n : Nat) : Nat × TypeId × List Own := (t, ty, (List.replicate ((sizeT Tryz.prog ty).getD 0) Own.none).set i (.id (8 * t + 1) n))
noncomputable def loopT : FuncId → Nat → LoopCfg
  | 7, 0 => { mods := [ap 7 42, ap 8 22, (9, 3, .none)], boxes := [bx 3 35], keeps := [1, 2, 3], exits := [0] }
  | 11, 0 => { mods := [(6, 3, .none), (7, 4, .none), (8, 3, .none), (9, 3, .none)], boxes := [], keeps := [0, 1, 2], exits := [0] }
  | 17, 0 => { mods := [(4, 4, .none), (5, 3, .none)], boxes := [bx 2 35, bx 3 35], keeps := [2, 3], exits := [0] }
  | 19, 0 => { mods := [(5, 25, .none), (7, 3, .none)], boxes := [bx 2 35, bx 4 35], keeps := [1, 2, 4, 6], exits := [0] }
  | 20, 0 => { mods := [(4, 4, .none), (5, 3, .none)], boxes := [], keeps := [0, 1], exits := [0] }
  | 21, 0 => { mods := [(3, 42, .id 31 1), (9, 3, .none)], boxes := [], keeps := [7, 8], exits := [0] }
  | 22, 2 => { mods := [ap 3 42, (6, 3, .none)], boxes := [], keeps := [4, 5], exits := [2] }
  | 22, 0 => { mods := [ap 3 42, (5, 3, .none)], boxes := [], keeps := [4], exits := [0] }
  | 27, 0 => { mods := [(4, 3, .none), (8, 3, .none)], boxes := [], keeps := [0, 1, 7], exits := [0] }
  | 29, 0 => { mods := [(6, 4, .none), (7, 3, .none)], boxes := [bx 3 35], keeps := [1, 2, 3], exits := [0] }
  | 33, 0 => { mods := [(6, 4, .none), ap 7 33, (8, 3, .none)], boxes := [bx 2 35, bx 4 35], keeps := [1, 2, 4], exits := [0] }
  | 35, 1 => { mods := [(4, 3, .none), (5, 64, .none), ap 6 42, (40, 3, .none)], boxes := [bx 2 35], keeps := [1, 2, 38, 39], exits := [1] }
  | 37, 1 => { mods := [(4, 3, .none), (5, 25, .none), ap 6 42, (7, 3, .none)], boxes := [bx 2 35], keeps := [1, 2], exits := [1] }
  | 39, 0 => { mods := [ap 5 33, (6, 3, .none)], boxes := [bx 2 35], keeps := [1, 2], exits := [0] }
  | 40, 0 => { mods := [ap 5 33, (6, 3, .none)], boxes := [bx 2 35, bx 4 35], keeps := [1, 2, 4], exits := [0] }
  | 43, 2 => { mods := [(3, 3, .none), (5, 3, .none)], boxes := [], keeps := [0, 4], exits := [2] }
  | 43, 0 => { mods := [(2, 42, .none), (3, 3, .none)], boxes := [], keeps := [0], exits := [0] }
  | 44, 0 => { mods := [(5, 64, .none), (36, 3, .none)], boxes := [bxo 2 35 7 8, bx 4 35], keeps := [1, 2, 4, 34, 35], exits := [0] }
  | 45, 0 => { mods := [(6, 3, .none), (7, 4, .none), (8, 3, .none), (9, 3, .none)], boxes := [bx 3 35], keeps := [1, 2, 3], exits := [0] }
  | 50, 2 => { mods := [(4, 3, .none), (5, 4, .none), (6, 3, .none)], boxes := [], keeps := [1], exits := [2] }
  | 50, 4 => { mods := [(4, 3, .none), (5, 4, .none), (7, 3, .none)], boxes := [], keeps := [1], exits := [4] }
  | 52, 0 => { mods := [(1, 3, .none), (2, 3, .none), (3, 3, .none), (8, 4, .none), (9, 4, .none)], boxes := [], keeps := [0], exits := [] }
  | 55, 0 => { mods := [(61, 3, .none)], boxes := [], keeps := [0, 2, 3, 59, 60], exits := [0] }
  | 60, 3 => { mods := [(8, 4, .none), (50, 3, .none)], boxes := [bx 6 95], keeps := [1, 3, 6, 48, 49], exits := [3] }
  | 60, 0 => { mods := [(0, 64, .none), (8, 4, .none)], boxes := [bx 6 95], keeps := [1, 3, 6], exits := [] }
  | 63, 2 => { mods := [(7, 3, .none)], boxes := [], keeps := [0, 1, 2, 6], exits := [2] }
  | 63, 0 => { mods := [(6, 3, .none)], boxes := [], keeps := [0, 1, 2], exits := [0] }
  | 64, 2 => { mods := [(10, 3, .none)], boxes := [], keeps := [0, 6, 7], exits := [2] }
  | 64, 0 => { mods := [(9, 3, .none)], boxes := [], keeps := [0, 6, 7, 8], exits := [0] }
  | 65, 0 => { mods := [(9, 3, .none)], boxes := [], keeps := [0, 1, 6, 7, 8], exits := [0] }
  | 67, 0 => { mods := [(6, 3, .none), (7, 3, .none)], boxes := [], keeps := [0], exits := [0] }
  | 68, 6 => { mods := [(10, 3, .none)], boxes := [], keeps := [0, 1, 2, 7, 8], exits := [6] }
  | 68, 4 => { mods := [(9, 3, .none)], boxes := [], keeps := [0, 1, 2, 7, 8], exits := [4] }
  | 68, 2 => { mods := [(7, 3, .none)], boxes := [], keeps := [0, 1, 2, 8], exits := [2] }
  | 68, 0 => { mods := [(6, 4, .none), (7, 3, .none), (8, 3, .none)], boxes := [], keeps := [0, 1, 2], exits := [0] }
  | 70, 4 => { mods := [(10, 3, .none)], boxes := [], keeps := [0, 1, 9], exits := [4] }
  | 70, 2 => { mods := [(9, 3, .none)], boxes := [], keeps := [0, 1, 10], exits := [2] }
  | 70, 0 => { mods := [(9, 3, .none), (10, 3, .none)], boxes := [], keeps := [0, 1], exits := [0] }
  | 71, 8 => { mods := [(11, 3, .none)], boxes := [], keeps := [0, 1, 10], exits := [8] }
  | 71, 6 => { mods := [(10, 3, .none)], boxes := [], keeps := [0, 1, 11], exits := [6] }
  | 71, 4 => { mods := [(10, 3, .none), (11, 3, .none)], boxes := [], keeps := [0, 1], exits := [4] }
  | 71, 2 => { mods := [(11, 3, .none)], boxes := [], keeps := [0, 1, 10], exits := [2] }
  | 71, 0 => { mods := [(10, 3, .none)], boxes := [], keeps := [0, 1, 11], exits := [0] }
  | 75, 0 => { mods := [(2, 4, .none), (3, 3, .none)], boxes := [], keeps := [0], exits := [0] }
  | 84, 0 => { mods := [(4, 4, .none), (14, 3, .none)], boxes := [], keeps := [1, 12, 13], exits := [0] }
  | 85, 0 => { mods := [(8, 3, .none)], boxes := [], keeps := [0, 2, 3], exits := [0] }
  | 92, 0 => { mods := [(2, 4, .none), (4, 3, .none)], boxes := [], keeps := [0, 3], exits := [0] }
  | 99, 0 => { mods := [(4, 3, .none), (8, 3, .none)], boxes := [], keeps := [0, 1, 7], exits := [0] }
  | 105, 0 => { mods := [], boxes := [], keeps := [0, 3], exits := [0] }
  | 111, 0 => { mods := [(4, 3, .none), (8, 3, .none)], boxes := [], keeps := [0, 1, 7], exits := [0] }
  | 113, 0 => { mods := [(0, 9, .none), (10, 3, .none)], boxes := [], keeps := [1, 2, 3, 9], exits := [0] }
  | 114, 0 => { mods := [(0, 9, .none), (7, 3, .none)], boxes := [], keeps := [1, 6], exits := [0] }
  | 115, 0 => { mods := [(0, 9, .none), (4, 3, .none), (5, 3, .none)], boxes := [], keeps := [1], exits := [] }
  | 117, 0 => { mods := [(2, 3, .none)], boxes := [], keeps := [4], exits := [0] }
  | 120, 1 => { mods := [(4, 3, .none), (8, 3, .none), (10, 3, .none)], boxes := [], keeps := [0, 1, 5, 6, 7, 9], exits := [1] }
  | 125, 2 => { mods := [(4, 3, .none), (8, 116, .none), (10, 3, .none)], boxes := [], keeps := [0, 1, 5, 6, 7], exits := [2] }
  | 125, 0 => { mods := [(8, 116, .none), (9, 3, .none)], boxes := [], keeps := [0, 1, 5, 6, 7], exits := [0] }
  | 127, 2 => { mods := [(6, 116, .none), (7, 116, .none), (8, 3, .none)], boxes := [], keeps := [4], exits := [2] }
  | 127, 0 => { mods := [(4, 116, .none), (5, 3, .none)], boxes := [], keeps := [0], exits := [0] }
  | _, _ => { mods := [], boxes := [], keeps := [], exits := [] }
structure Par where
  m : Int
  o : Obj
  ho : ∃ cur T fr, o = Obj.cells cur T fr ∧ cur[0]? = some (Value.iface 126 (.agg #[.pointer (some ⟨4, 64, none⟩)]))
def globT (m : Int) : Nat → Option (List Dat)
  | 1 => some [.int .i64 m]
  | _ => none
def lowT (p : Par) : Nat → Option Obj := fun i => cond (i == 0) (some p.o) none
def ownResT : FuncId → Option (Nat × Nat)
  | 39 => some (0, 8)
  | _ => none
noncomputable def cfgZ (p : Par) : Cfg :=
  { P := Tryz.prog, glob := globT p.m, low := lowT p, esc := escT, loop := loopT, join := fun _ _ => false, ownRes := fun _ => none, prim := fun f => cond (f == 112) (some splitA) none }
theorem names_ok : ∀ (g : Nat) (fn : Func), Tryz.prog.funcs[g]? = some fn → (fn.name == "runtime.NumGoroutine") = false := by
  intro g fn h
  have hall : (Tryz.prog.funcs.all fun fn => !(fn.name == "runtime.NumGoroutine")) = true := by kernel_rfl
  rw [Array.all_eq_true_iff_forall_mem] at hall
  have := hall fn (Array.mem_of_getElem? h)
  simpa using this
theorem cfgZ_ok (p : Par) : CfgOk (cfgZ p) := ⟨names_ok, by kernel_rfl, fun f z h => (by cases h), fun g z h n w hn => (by cases h)⟩
theorem type_cell (p : Par) {w : World} {M : Nat → Nat} (hg : GlobOk (cfgZ p) w M) : w.cell? ⟨0, 0, none⟩ = some (.iface 126 (.agg #[.pointer (some ⟨4, 64, none⟩)])) := by
  have h := (hg.low 0 p.o rfl).1
  obtain ⟨cur, T, fr, ho, hc⟩ := p.ho
  rw [ho] at h
  unfold World.cell?
  rw [h]
  exact hc
theorem max_cell (p : Par) {w : World} {M : Nat → Nat} (hg : GlobOk (cfgZ p) w M) : w.cell? ⟨1, 0, none⟩ = some (.int .i64 p.m) := by
  have := hg.glob 1 [.int .i64 p.m] rfl
  cases this with
  | imm ws hs hc hv =>
    have h3 := hc 0 (by simp)
    have h4 := hv 0 _ rfl
    generalize ws 0 = u at h3 h4
    cases h4
    have h5 := h3.1
    rw [show (Addr.add ⟨1, 0, none⟩ 0) = ⟨1, 0, none⟩ from rfl] at h5
    exact h5
theorem splitZ (p : Par) : CallAt (cfgZ p) 112 splitA := splitA_ok (T := 9) rfl fun s sep w _ hg h1 h2 => Tryz.strings_Split s sep p.m w h1 (max_cell p hg) h2
theorem primZ_ok (p : Par) : ∀ f F, (cfgZ p).prim f = some F → CallAt (cfgZ p) f F := by
  intro f F h
  have h : cond (f == 112) (some splitA) none = some F := h
  cases hf : (f == 112) with
  | true =>
    rw [hf] at h
    cases h
    have : f = 112 := by simpa using hf
    rw [this]; exact splitZ p
  | false => rw [hf] at h; cases h
theorem Z.E_strings_Split (p : Par) {F : Ent3} (hF : EntOk (cfgZ p) 112 F) : EntOk (cfgZ p) 112 (P_strings_Split Sp.strings_Split F) := Go.Aev.E_strings_Split rfl hF
end Go.Proofs.YtppilomaljgkoaaGreatDoor

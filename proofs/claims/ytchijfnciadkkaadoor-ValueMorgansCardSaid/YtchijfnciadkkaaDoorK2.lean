/- How the evaluator is set for this program. -/
import Derived.Test.YtchijfnciadkkaaDoorAevC
import Derived.Test.YtchijfnciadkkaaDoorK1
import Derived.KernelRfl
set_option linter.unusedVariables false
set_option linter.unusedSimpArgs false
namespace Go.Proofs.YtchijfnciadkkaaDoor
open Go.Aev Go.RowKit
def escT : FuncId → Nat → Bool
  | 43, 10 => true
  | 46, 5 => true
  | 56, 12 => true
  | _, _ => false
noncomputable def ap (t ty : Nat) : Nat × TypeId × Own := (t, ty, .id (8 * t + 1) (match Tryd.prog.underlying ty with
  | some (.slice e) => (sizeT Tryd.prog e).getD 0
  | _ => 0))
noncomputable def bx (t ty : Nat) : Nat × TypeId × List Own := (t, ty, List.replicate ((sizeT Tryd.prog ty).getD 0) .none)
noncomputable def loopT : FuncId → Nat → LoopCfg
  | 18, 1 => { mods := [(3, 9, .none), (4, 3, .none)], boxes := [bx 1 23], keeps := [1], exits := [1] }
  | 33, 0 => { mods := [(0, 3, .none), (3, 9, .none)], boxes := [], keeps := [], exits := [0] }
  | 34, 0 => { mods := [(2, 3, .none), (8, 3, .none)], boxes := [], keeps := [3, 6, 7], exits := [0] }
  | 43, 0 => { mods := [(11, 3, .none), (53, 3, .none)], boxes := [], keeps := [0, 1, 2, 10, 52], exits := [0] }
  | 43, 2 => { mods := [(11, 3, .none), (78, 3, .none)], boxes := [], keeps := [0, 2, 10, 77], exits := [2] }
  | 47, 0 => { mods := [(0, 9, .none), (4, 3, .none), (5, 3, .none)], boxes := [], keeps := [1], exits := [] }
  | 55, 0 => { mods := [(1, 67, .none), (4, 3, .none)], boxes := [], keeps := [0], exits := [0] }
  | 56, 0 => { mods := [(1, 67, .none), (13, 3, .none)], boxes := [], keeps := [0, 3, 4, 10, 11, 12, 14, 15, 16], exits := [0] }
  | 56, 2 => { mods := [(1, 67, .none), (13, 3, .none)], boxes := [], keeps := [0, 3, 4, 10, 11, 12, 17], exits := [2] }
  | 57, 0 => { mods := [(2, 3, .none)], boxes := [], keeps := [4], exits := [0] }
  | 61, 1 => { mods := [(4, 3, .none), (8, 3, .none), (10, 3, .none)], boxes := [], keeps := [0, 1, 5, 6, 7, 9], exits := [1] }
  | 73, 2 => { mods := [(4, 3, .none), (8, 76, .none), (10, 3, .none)], boxes := [], keeps := [0, 1, 5, 6, 7], exits := [2] }
  | 73, 0 => { mods := [(8, 76, .none), (9, 3, .none)], boxes := [], keeps := [0, 1, 5, 6, 7], exits := [0] }
  | 77, 2 => { mods := [(6, 76, .none), (7, 76, .none), (8, 3, .none)], boxes := [], keeps := [4], exits := [2] }
  | 77, 0 => { mods := [(4, 76, .none), (5, 3, .none)], boxes := [], keeps := [0], exits := [0] }
  | _, _ => { mods := [], boxes := [], keeps := [], exits := [] }

def globT (m : Int) : Nat → Option (List Dat)
  | 0 => some [.int .i64 1, .int .i64 0, .int .i64 2]
  | 1 => some [.int .i64 0, .int .i64 0, .int .i64 0, .int .i64 0, .int .i64 1, .int .i64 2, .int .i64 0, .int .i64 2, .int .i64 2]
  | 3 => some [.int .i64 m]
  | _ => none
/-- strings.ReplaceAll -/
def replA (args : List AVal) (sg : Sig) : Option (List Ent × Sig) :=
  match args, sg with
  | [.dat (.str s), .dat (.str old), .dat (.str new)], [] =>
    cond (decide (s.size < 4294967281) && decide (1 ≤ old.size) && decide (s.size + Lib.countB s old * new.size ≤ 140737488355328))
      (some ([(.dat (.str ⟨(Lib.replaceAll s.data.toList old.data.toList new.data.toList).toArray⟩), .none)], [])) none
  | _, _ => none
noncomputable def cfg (m : Int) : Cfg :=
  { P := Tryd.prog, glob := globT m, esc := escT, loop := loopT, join := fun _ _ => false, ownRes := fun _ => none, prim := fun f => cond (f == 32) (some replA) none }

theorem cfg_ok (m : Int) : CfgOk (cfg m) := by
  refine ⟨fun g fn h => ?_, by kernel_rfl⟩
  have hall : (Tryd.prog.funcs.all fun fn => !(fn.name == "runtime.NumGoroutine")) = true := by kernel_rfl
  rw [Array.all_eq_true_iff_forall_mem] at hall
  have := hall fn (Array.mem_of_getElem? h)
  simpa using this

theorem replA_ok (m : Int) : CallAt (cfg m) 32 replA := by
  refine callAt_one (fun args sg rs sg' h => ?_) fun args sg rs sg' h w M vs hl hr hg => ?_
  · unfold replA at h
    split at h
    · rfl
    · cases h
  · unfold replA at h
    split at h
    · rename_i s old new
      obtain ⟨h1, h2⟩ := cond_any h
      simp only [Bool.and_eq_true, decide_eq_true_eq] at h1
      cases h2
      refine ⟨rfl, _, rfl, ?_⟩
      obtain ⟨l⟩ := vs
      match l, hl with
      | [v0, v1, v2], _ =>
        have r0 : v0 = .string s := by cases hr 0 _ v0 rfl rfl with | dat h => cases h; rfl
        have r1 : v1 = .string old := by cases hr 1 _ v1 rfl rfl with | dat h => cases h; rfl
        have r2 : v2 = .string new := by cases hr 2 _ v2 rfl rfl with | dat h => cases h; rfl
        subst r0 r1 r2
        have hm : w.cell? ⟨3, 0, none⟩ = some (.int .i64 m) := by
          have := hg 3 [.int .i64 m] rfl
          cases this with
          | imm ws hs hc hv =>
            have h3 := hc 0 (by simp)
            have h4 := hv 0 _ rfl
            generalize ws 0 = u at h3 h4
            cases h4
            have h5 := h3.1
            rw [show (Addr.add ⟨3, 0, none⟩ 0) = ⟨3, 0, none⟩ from rfl] at h5
            exact h5
        refine (Tryd.strings_ReplaceAll s old new m w h1.1.1 hm h1.1.2 h1.2).mono fun e w' hq => ⟨_, hq.1, hq.2, .str _⟩
    · cases h

theorem prim_ok (m : Int) : ∀ f F, (cfg m).prim f = some F → CallAt (cfg m) f F := by
  intro f F h
  have h : cond (f == 32) (some replA) none = some F := h
  cases hf : (f == 32) with
  | false => rw [hf] at h; cases h
  | true =>
    rw [hf] at h
    cases h
    have : f = 32 := by simpa using hf
    subst this
    exact replA_ok m
end Go.Proofs.YtchijfnciadkkaaDoor

/- How the evaluator is set for this program. -/
import Derived.Test.YtchijfnciadkkaaDoorAevC
import Derived.Test.YtchijfnciadkkaaDoorK1
import Derived.KernelRfl
set_option linter.unusedVariables false
set_option linter.unusedSimpArgs false
namespace Go.Proofs.YtchijfnciadkkaaDoor
open Go.Aev Go.RowKit Go.Sort
def escT : FuncId → Nat → Bool
  | 43, 10 => true
  | 46, 5 => true
  | 56, 12 => true
  | _, _ => false
noncomputable def ap (t ty : Nat) : Nat × TypeId × Own := (t, ty, .id (8 * t + 1) (match Tryd.prog.underlying ty with
  | some (.slice e) => (sizeT Tryd.prog e).getD 0
  | _ => 0))
noncomputable def bx (t ty : Nat) : Nat × TypeId × List Own := (t, ty, List.replicate ((sizeT Tryd.prog ty).getD 0) .none)
noncomputable def loopT : FuncId → Nat → LoopCfg
  | 18, 1 => { mods := [(3, 9, .none), (4, 3, .none)], boxes := [bx 1 23], keeps := [1], exits := [1] }
  | 33, 0 => { mods := [(0, 3, .none), (3, 9, .none)], boxes := [], keeps := [], exits := [0] }
  | 34, 0 => { mods := [(2, 3, .none), (8, 3, .none)], boxes := [], keeps := [3, 6, 7], exits := [0] }
  | 43, 0 => { mods := [(11, 3, .none), (53, 3, .none)], boxes := [], keeps := [0, 1, 2, 10, 52], exits := [0] }
  | 43, 2 => { mods := [(11, 3, .none), (78, 3, .none)], boxes := [], keeps := [0, 2, 10, 77], exits := [2] }
  | 47, 0 => { mods := [(0, 9, .none), (4, 3, .none), (5, 3, .none)], boxes := [], keeps := [1], exits := [] }
  | 55, 0 => { mods := [(1, 67, .none), (4, 3, .none)], boxes := [], keeps := [0], exits := [0] }
  | 56, 0 => { mods := [(1, 67, .none), (13, 3, .none)], boxes := [], keeps := [0, 3, 4, 10, 11, 12, 14, 15, 16], exits := [0] }
  | 56, 2 => { mods := [(1, 67, .none), (13, 3, .none)], boxes := [], keeps := [0, 3, 4, 10, 11, 12, 17], exits := [2] }
  | 57, 0 => { mods := [(2, 3, .none)], boxes := [], keeps := [4], exits := [0] }
  | 61, 1 => { mods := [(4, 3, .none), (8, 3, .none), (10, 3, .none)], boxes := [], keeps := [0, 1, 5, 6, 7, 9], exits := [1] }
  | 73, 2 => { mods := [(4, 3, .none), (8, 76, .none), (10, 3, .none)], boxes := [], keeps := [0, 1, 5, 6, 7], exits := [2] }
  | 73, 0 => { mods := [(8, 76, .none), (9, 3, .none)], boxes := [], keeps := [0, 1, 5, 6, 7], exits := [0] }
  | 77, 2 => { mods := [(6, 76, .none), (7, 76, .none), (8, 3, .none)], boxes := [], keeps := [4], exits := [2] }
  | 77, 0 => { mods := [(4, 76, .none), (5, 3, .none)], boxes := [], keeps := [0], exits := [0] }
  | _, _ => { mods := [], boxes := [], keeps := [], exits := [] }

/-- what is not known of the world: MaxLen; the type and the mark of the table of powers -/
structure Par where
  m : Int
  T : TypeId
  fr : Nat × Nat

def globT (m : Int) : Nat → Option (List Dat)
  | 0 => some [.int .i64 1, .int .i64 0, .int .i64 2]
  | 1 => some [.int .i64 0, .int .i64 0, .int .i64 0, .int .i64 0, .int .i64 1, .int .i64 2, .int .i64 0, .int .i64 2, .int .i64 2]
  | 3 => some [.int .i64 m]
  | _ => none
/-- strings.ReplaceAll -/
def replA (args : List AVal) (sg : Sig) : Option (List Ent × Sig) :=
  match args, sg with
  | [.dat (.str s), .dat (.str old), .dat (.str new)], [] =>
    cond (decide (s.size < 4294967281) && decide (1 ≤ old.size) && decide (s.size + Lib.countB s old * new.size ≤ 140737488355328))
      (some ([(.dat (.str ⟨(Lib.replaceAll s.data.toList old.data.toList new.data.toList).toArray⟩), .none)], [])) none
  | _, _ => none
/-- strconv.Itoa -/
def itoaA (args : List AVal) (sg : Sig) : Option (List Ent × Sig) :=
  match args, sg with
  | [.dat (.int .i64 n)], [] => cond (decide (-9223372036854775808 ≤ n) && decide (n ≤ 9223372036854775807)) (some ([(.dat (.str ⟨(Lib.itoa n).toArray⟩), .none)], [])) none
  | _, _ => none
def pow10O (p : Par) : Obj := .cells (Lib.pow10Tab.map fun z => Value.int .u64 z).toArray p.T p.fr
noncomputable def cfg (p : Par) : Cfg :=
  { P := Tryd.prog, glob := globT p.m, low := fun i => cond (i == 2) (some (pow10O p)) none, esc := escT, loop := loopT, join := fun _ _ => false, ownRes := fun _ => none, prim := fun f => cond (f == 32) (some replA) (cond (f == 31) (some itoaA) none) }

theorem cfg_ok (p : Par) : CfgOk (cfg p) := by
  refine ⟨fun g fn h => ?_, by kernel_rfl⟩
  have hall : (Tryd.prog.funcs.all fun fn => !(fn.name == "runtime.NumGoroutine")) = true := by kernel_rfl
  rw [Array.all_eq_true_iff_forall_mem] at hall
  have := hall fn (Array.mem_of_getElem? h)
  simpa using this

theorem replA_ok (p : Par) : CallAt (cfg p) 32 replA := by
  refine callAt_one (fun args sg rs sg' h => ?_) fun args sg rs sg' h w M vs hl hr hg => ?_
  · unfold replA at h
    split at h
    · rfl
    · cases h
  · unfold replA at h
    split at h
    · rename_i s old new
      obtain ⟨h1, h2⟩ := cond_any h
      simp only [Bool.and_eq_true, decide_eq_true_eq] at h1
      cases h2
      refine ⟨rfl, _, rfl, ?_⟩
      obtain ⟨l⟩ := vs
      match l, hl with
      | [v0, v1, v2], _ =>
        have r0 : v0 = .string s := by cases hr 0 _ v0 rfl rfl with | dat h => cases h; rfl
        have r1 : v1 = .string old := by cases hr 1 _ v1 rfl rfl with | dat h => cases h; rfl
        have r2 : v2 = .string new := by cases hr 2 _ v2 rfl rfl with | dat h => cases h; rfl
        subst r0 r1 r2
        have hm : w.cell? ⟨3, 0, none⟩ = some (.int .i64 p.m) := by
          have := hg.glob 3 [.int .i64 p.m] rfl
          cases this with
          | imm ws hs hc hv =>
            have h3 := hc 0 (by simp)
            have h4 := hv 0 _ rfl
            generalize ws 0 = u at h3 h4
            cases h4
            have h5 := h3.1
            rw [show (Addr.add ⟨3, 0, none⟩ 0) = ⟨3, 0, none⟩ from rfl] at h5
            exact h5
        refine (Tryd.strings_ReplaceAll s old new p.m w h1.1.1 hm h1.1.2 h1.2).mono fun e w' hq => ⟨_, hq.1, hq.2, .str _⟩
    · cases h

theorem below_grow (w : World) (k : Nat) (os : Array Obj) : Below w.heap.size w (grow (w.drewN k) os) := by
  refine ⟨rfl, rfl, rfl, ?_, fun i hi => ?_⟩
  · show w.heap.size ≤ (w.heap ++ os).size
    simp
  · show (w.heap ++ os)[i]? = w.heap[i]?
    rw [Array.getElem?_append_left hi]

theorem itoaA_ok (p : Par) : CallAt (cfg p) 31 itoaA := by
  refine callAt_one (fun args sg rs sg' h => ?_) fun args sg rs sg' h w M vs hl hr hg => ?_
  · unfold itoaA at h
    split at h
    · rfl
    · cases h
  · unfold itoaA at h
    split at h
    · rename_i n
      obtain ⟨h1, h2⟩ := cond_any h
      simp only [Bool.and_eq_true, decide_eq_true_eq] at h1
      cases h2
      refine ⟨rfl, _, rfl, ?_⟩
      obtain ⟨l⟩ := vs
      match l, hl with
      | [v0], _ =>
        have r0 : v0 = .int .i64 n := by cases hr 0 _ v0 rfl rfl with | dat h => cases h; rfl
        subst r0
        have ht : Lib.TabIs Tryd.prog w "internal/strconv.uint64pow10" .u64 Lib.pow10Tab := by
          unfold Lib.TabIs World.var?
          rw [show Tryd.prog.globalNamed "internal/strconv.uint64pow10" = some 2 by kernel_rfl, Option.bind_some, (hg.low 2 (pow10O p) rfl).1]
          rfl
        refine (Tryd.strconv_Itoa n h1.1 h1.2 w ht).mono fun e w' hq => ?_
        obtain ⟨he, k, os, rfl⟩ := hq
        exact ⟨_, he, below_grow w k os, .str _⟩
    · cases h

theorem prim_ok (p : Par) : ∀ f F, (cfg p).prim f = some F → CallAt (cfg p) f F := by
  intro f F h
  have h : cond (f == 32) (some replA) (cond (f == 31) (some itoaA) none) = some F := h
  cases hf : (f == 32) with
  | true =>
    rw [hf] at h
    cases h
    have : f = 32 := by simpa using hf
    subst this
    exact replA_ok p
  | false =>
    rw [hf, cond_false] at h
    cases hg : (f == 31) with
    | false => rw [hg] at h; cases h
    | true =>
      rw [hg] at h
      cases h
      have : f = 31 := by simpa using hg
      subst this
      exact itoaA_ok p

def Sp.strconv_Itoa (n : Int) (γ : Type) (K : ByteArray → Option γ) : Option γ :=
  cond (decide (-9223372036854775808 ≤ n) && decide (n ≤ 9223372036854775807)) (K ⟨(Lib.itoa n).toArray⟩) none
abbrev Ty_strconv_Itoa : Type 1 := Int → (γ : Type) → (ByteArray → Option γ) → Option γ
def P_strconv_Itoa (X : Ty_strconv_Itoa) (F : Ent3) : Ent3 := fun a s γ K => match a, s with
  | [.dat (.int .i64 n)], [] => X n γ fun r => K ([(.dat (.str r), .none)], [])
  | a, s => F a s γ K
theorem E_strconv_Itoa (p : Par) {F : Ent3} (hF : EntOk (cfg p) 31 F) : EntOk (cfg p) 31 (P_strconv_Itoa Sp.strconv_Itoa F) := by
  intro a s γ K q h
  unfold P_strconv_Itoa at h
  split at h
  · rename_i n
    refine ent_prim (S := fun a s γ K => (itoaA a s).bind K) (F := itoaA) rfl (fun a s γ K q h => h) _ _ γ K q ?_
    unfold Sp.strconv_Itoa at h
    obtain ⟨h1, h2⟩ := cond_any h
    simp only [itoaA, h1, cond_true]
    exact h2
  · exact hF _ _ _ _ _ h
def Sp.strings_ReplaceAll (s old new : ByteArray) (γ : Type) (K : ByteArray → Option γ) : Option γ :=
  cond (decide (s.size < 4294967281) && decide (1 ≤ old.size) && decide (s.size + Lib.countB s old * new.size ≤ 140737488355328)) (K ⟨(Lib.replaceAll s.data.toList old.data.toList new.data.toList).toArray⟩) none
abbrev Ty_strings_ReplaceAll : Type 1 := ByteArray → ByteArray → ByteArray → (γ : Type) → (ByteArray → Option γ) → Option γ
def P_strings_ReplaceAll (X : Ty_strings_ReplaceAll) (F : Ent3) : Ent3 := fun a s γ K => match a, s with
  | [.dat (.str x), .dat (.str old), .dat (.str new)], [] => X x old new γ fun r => K ([(.dat (.str r), .none)], [])
  | a, s => F a s γ K
theorem E_strings_ReplaceAll (p : Par) {F : Ent3} (hF : EntOk (cfg p) 32 F) : EntOk (cfg p) 32 (P_strings_ReplaceAll Sp.strings_ReplaceAll F) := by
  intro a s γ K q h
  unfold P_strings_ReplaceAll at h
  split at h
  · rename_i x old new
    refine ent_prim (S := fun a s γ K => (replA a s).bind K) (F := replA) rfl (fun a s γ K q h => h) _ _ γ K q ?_
    unfold Sp.strings_ReplaceAll at h
    obtain ⟨h1, h2⟩ := cond_any h
    simp only [replA, h1, cond_true]
    exact h2
  · exact hF _ _ _ _ _ h
end Go.Proofs.YtchijfnciadkkaaDoor

/- How the evaluator is set for this program. -/
import Derived.Test.YtffhgjoemimmnaaDoorAevD
import Derived.Test.YtffhgjoemimmnaaDoorAevC
import Derived.Test.YtffhgjoemimmnaaDoorK1
import Derived.KernelRfl
set_option linter.unusedVariables false
set_option linter.unusedSimpArgs false
namespace Go.Proofs.YtffhgjoemimmnaaDoor
open Go.Aev Go.RowKit
def escT : FuncId → Nat → Bool
  | 6, 15 => true
  | 11, 14 => true
  | 17, 8 => true
  | 24, 5 => true
  | 29, 10 => true
  | _, _ => false
noncomputable def ap (t ty : Nat) : Nat × TypeId × Own := (t, ty, .id (8 * t + 1) (match Tryd.prog.underlying ty with
  | some (.slice e) => (sizeT Tryd.prog e).getD 0
  | _ => 0))
noncomputable def bx (t ty : Nat) : Nat × TypeId × List Own := (t, ty, List.replicate ((sizeT Tryd.prog ty).getD 0) .none)
noncomputable def loopT : FuncId → Nat → LoopCfg
  | 6, 0 => { mods := [ap 2 23, (3, 3, .none), (4, 24, .none), ap 6 23], boxes := [], keeps := [0, 5], exits := [0] }
  | 7, 0 => { mods := [ap 3 33, (9, 3, .none)], boxes := [], keeps := [7, 8], exits := [0] }
  | 8, 2 => { mods := [ap 3 42, (5, 3, .none)], boxes := [], keeps := [0, 4], exits := [2] }
  | 8, 0 => { mods := [ap 3 42, (4, 3, .none)], boxes := [], keeps := [0], exits := [0] }
  | 9, 0 => { mods := [(6, 4, .none), (7, 3, .none)], boxes := [], keeps := [0, 1, 2], exits := [0] }
  | 13, 0 => { mods := [], boxes := [], keeps := [0], exits := [0] }
  | 17, 3 => { mods := [(65, 3, .none)], boxes := [], keeps := [1, 8, 63, 64], exits := [3] }
  | 17, 1 => { mods := [(5, 3, .none), (41, 3, .none)], boxes := [], keeps := [0, 1, 39, 40], exits := [1] }
  | 20, 0 => { mods := [], boxes := [], keeps := [0, 3], exits := [0] }
  | 24, 0 => { mods := [(3, 4, .none)], boxes := [bx 2 32, bx 4 32], keeps := [0, 2, 4, 5], exits := [0] }
  | 26, 0 => { mods := [(3, 4, .none), (17, 3, .none)], boxes := [bx 2 32, bx 4 32], keeps := [2, 4, 16], exits := [0] }
  | 28, 0 => { mods := [(3, 4, .none), (8, 3, .none)], boxes := [bx 2 32], keeps := [0, 2, 7], exits := [0] }
  | 29, 0 => { mods := [(11, 3, .none), (53, 3, .none)], boxes := [], keeps := [0, 1, 2, 10, 52], exits := [0] }
  | 29, 2 => { mods := [(11, 3, .none), (78, 3, .none)], boxes := [], keeps := [0, 2, 10, 77], exits := [2] }
  | 33, 0 => { mods := [(4, 3, .none), (8, 3, .none)], boxes := [], keeps := [0, 1, 7], exits := [0] }
  | 34, 0 => { mods := [(0, 9, .none), (10, 3, .none)], boxes := [], keeps := [1, 2, 3, 9], exits := [0] }
  | 39, 0 => { mods := [(0, 9, .none), (4, 3, .none), (5, 3, .none)], boxes := [], keeps := [1], exits := [] }
  | 44, 0 => { mods := [(0, 9, .none), (7, 3, .none)], boxes := [], keeps := [1, 6], exits := [0] }
  | 46, 0 => { mods := [(2, 3, .none)], boxes := [], keeps := [4], exits := [0] }
  | 48, 1 => { mods := [(4, 3, .none), (8, 3, .none), (10, 3, .none)], boxes := [], keeps := [0, 1, 5, 6, 7, 9], exits := [1] }
  | 54, 2 => { mods := [(4, 3, .none), (8, 77, .none), (10, 3, .none)], boxes := [], keeps := [0, 1, 5, 6, 7], exits := [2] }
  | 54, 0 => { mods := [(8, 77, .none), (9, 3, .none)], boxes := [], keeps := [0, 1, 5, 6, 7], exits := [0] }
  | 55, 2 => { mods := [(6, 77, .none), (7, 77, .none), (8, 3, .none)], boxes := [], keeps := [4], exits := [2] }
  | 55, 0 => { mods := [(4, 77, .none), (5, 3, .none)], boxes := [], keeps := [0], exits := [0] }
  | _, _ => { mods := [], boxes := [], keeps := [], exits := [] }
def signsL : List (List Nat) := [[60, 61], [62, 61], [60, 62], [40], [41], [44], [46], [42], [43], [45], [47], [37], [61], [60], [62]]
structure Par where
  m : Int
def globT (m : Int) : Nat → Option (List Dat)
  | 0 => some [.str (bs [60, 61]), .str (bs [62, 61]), .str (bs [60, 62]), .str (bs [40]), .str (bs [41]), .str (bs [44]), .str (bs [46]), .str (bs [42]), .str (bs [43]), .str (bs [45]), .str (bs [47]), .str (bs [37]), .str (bs [61]), .str (bs [60]), .str (bs [62])]
  | 1 => some [.int .i64 m]
  | _ => none

/-- what stands behind the opening quote of a text, up to the closing one -/
def textL : List UInt8 → Option (List UInt8 × Nat)
  | [] => none
  | [c] => cond (c == 39) (some ([], 1)) none
  | c :: d :: r => cond (c == 39) (cond (d == 39) ((textL r).map fun p => (39 :: p.1, p.2 + 2)) (some ([], 1))) ((textL (d :: r)).map fun p => (c :: p.1, p.2 + 1))

/-- (*scanner).text at place i of s: the text, is it one, the place behind -/
def textR (s : ByteArray) (i : Nat) : ByteArray × Bool × Int :=
  match textL (s.data.toList.drop (i + 1)) with
  | some (t, n) => (⟨t.toArray⟩, decide (t.length ≤ 64), (i + 1 + n : Nat))
  | none => (⟨#[]⟩, false, (s.size : Nat))

def primT (f : FuncId) : Option (List AVal → Sig → Option (List Ent × Sig)) :=
  cond (f == 16) (some replA) <| cond (f == 17) (some joinA) <| cond (f == 21) (some splitA) <| cond (f == 22) (some hasPrefA) <| cond (f == 23) (some idxByteA) <| cond (f == 38) (some (primS bldWriteByteS)) <| cond (f == 32) (some (primS bldStringS)) <| cond (f == 37) (some (primS bldLenS)) none

noncomputable def cfg (p : Par) : Cfg :=
  { P := Tryd.prog, glob := globT p.m, esc := escT, loop := loopT, join := fun _ _ => false, ownRes := fun _ => none, bld := (51, 5), prim := primT }

/-- the builder's methods, for the printing -/
def primK : FuncId → Option Ent3
  | 38 => some bldWriteByteS
  | 32 => some bldStringS
  | 37 => some bldLenS
  | _ => none

theorem cfg_ok (p : Par) : CfgOk (cfg p) := by
  refine ⟨fun g fn h => ?_, by kernel_rfl⟩
  have hall : (Tryd.prog.funcs.all fun fn => !(fn.name == "runtime.NumGoroutine")) = true := by kernel_rfl
  rw [Array.all_eq_true_iff_forall_mem] at hall
  have := hall fn (Array.mem_of_getElem? h)
  simpa using this

theorem max_cell (p : Par) {w : World} {M : Nat → Nat} (hg : GlobOk (cfg p) w M) : w.cell? ⟨1, 0, none⟩ = some (.int .i64 p.m) := by
  have := hg.glob 1 [.int .i64 p.m] rfl
  cases this with
  | imm ws hs hc hv =>
    have h3 := hc 0 (by simp)
    have h4 := hv 0 _ rfl
    generalize ws 0 = u at h3 h4
    cases h4
    have h5 := h3.1
    rw [show (Addr.add ⟨1, 0, none⟩ 0) = ⟨1, 0, none⟩ from rfl] at h5
    exact h5

theorem replP (p : Par) : CallAt (cfg p) 16 replA := replA_ok fun s old new w _ hg h1 h2 h3 => Tryd.strings_ReplaceAll s old new p.m w h1 (max_cell p hg) h2 h3
theorem joinP (p : Par) : CallAt (cfg p) 17 joinA := joinA_ok (fun a c sep w => Tryd.strings_Join_none a c sep w) fun bk o c xs sep w h1 h2 h3 h4 h5 => Tryd.strings_Join bk o c xs sep w h1 h2 h3 h4 h5
theorem splitP (p : Par) : CallAt (cfg p) 21 splitA := splitA_ok (T := 9) fun s sep w _ hg h1 h2 => Tryd.strings_Split s sep p.m w h1 (max_cell p hg) h2
theorem hasPrefP (p : Par) : CallAt (cfg p) 22 hasPrefA := hasPrefA_ok fun s q w => Tryd.strings_HasPrefix s q w
theorem idxByteP (p : Par) : CallAt (cfg p) 23 idxByteA := idxByteA_ok fun s c w => Tryd.strings_IndexByte s c w

theorem writeByteP (p : Par) : CallAt (cfg p) 38 (primS bldWriteByteS) := bldWriteByteS_ok fun b q v bs c w h hl => bld_writeByte Tryd.lays167 Tryd.Builder_Extra_167 b q v bs c w h hl
theorem stringP (p : Par) : CallAt (cfg p) 32 (primS bldStringS) := bldStringS_ok fun b q v l w h => bld_string Tryd.lays169 Tryd.Builder_Extra_169 b q v l w h
theorem lenP (p : Par) : CallAt (cfg p) 37 (primS bldLenS) := bldLenS_ok fun b q v bs w h => bld_len Tryd.lays170 b q v bs w h

theorem prim_ok (p : Par) : ∀ f F, (cfg p).prim f = some F → CallAt (cfg p) f F := by
  intro f F h
  have h : primT f = some F := h
  unfold primT at h
  have step : ∀ {k : Nat} {G : List AVal → Sig → Option (List Ent × Sig)} {R : Option (List AVal → Sig → Option (List Ent × Sig))}, CallAt (cfg p) k G → (R = some F → CallAt (cfg p) f F) → cond (f == k) (some G) R = some F → CallAt (cfg p) f F := by
    intro k G R hG hR h
    cases hf : (f == k) with
    | true =>
      rw [hf] at h
      cases h
      have : f = k := by simpa using hf
      rw [this]; exact hG
    | false => rw [hf] at h; exact hR h
  exact step (replP p) (step (joinP p) (step (splitP p) (step (hasPrefP p) (step (idxByteP p) (step (writeByteP p) (step (stringP p) (step (lenP p) (fun h => by cases h)))))))) h

theorem E_strings_ReplaceAll (p : Par) {F : Ent3} (hF : EntOk (cfg p) 16 F) : EntOk (cfg p) 16 (P_strings_ReplaceAll Sp.strings_ReplaceAll F) := Go.Aev.E_strings_ReplaceAll rfl hF
theorem E_strings_Join (p : Par) {F : Ent3} (hF : EntOk (cfg p) 17 F) : EntOk (cfg p) 17 (P_strings_Join Sp.strings_Join F) := Go.Aev.E_strings_Join rfl hF
theorem E_strings_Split (p : Par) {F : Ent3} (hF : EntOk (cfg p) 21 F) : EntOk (cfg p) 21 (P_strings_Split Sp.strings_Split F) := Go.Aev.E_strings_Split rfl hF
theorem E_strings_HasPrefix (p : Par) {F : Ent3} (hF : EntOk (cfg p) 22 F) : EntOk (cfg p) 22 (P_strings_HasPrefix Sp.strings_HasPrefix F) := Go.Aev.E_strings_HasPrefix rfl hF
theorem E_strings_IndexByte (p : Par) {F : Ent3} (hF : EntOk (cfg p) 23 F) : EntOk (cfg p) 23 (P_strings_IndexByte Sp.strings_IndexByte F) := Go.Aev.E_strings_IndexByte rfl hF

end Go.Proofs.YtffhgjoemimmnaaDoor

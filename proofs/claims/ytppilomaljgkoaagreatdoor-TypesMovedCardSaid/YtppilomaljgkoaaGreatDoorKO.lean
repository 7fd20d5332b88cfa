/- types.Uses: the places of columns, gathered, sorted, each once. -/
import Derived.Test.YtppilomaljgkoaaGreatDoorKU
set_option linter.unusedVariables false
set_option linter.unusedSimpArgs false
namespace Go.Proofs.YtppilomaljgkoaaGreatDoor
open Go Go.Aev Go.RowKit Go.Sort
def sq1 : Code → Code
  | .seq a _ => a
  | c => c
def sq2 : Code → Code
  | .seq _ b => b
  | c => c
noncomputable def UB : Code := (Tryz.f21.body).getD .skip
noncomputable def UR0 : Code := sq1 UB
noncomputable def UR1 : Code := sq1 (sq2 UB)
noncomputable def ULP : Code := sq1 (sq2 (sq2 UB))
noncomputable def URS : Code := sq2 (sq2 (sq2 UB))
noncomputable def upre : Code := .seq UR0 (.seq UR1 ULP)
def useT {γ : Type} (K : List (List Dat) → Option γ) (e : Option (AVal × Go.Aev.Own)) : Option γ := match e with
  | some (AVal.dat (Dat.sl es), Go.Aev.Own.id 31 1) => K es
  | _ => none
def useK {γ : Type} (K : List (List Dat) → Option γ) (e : Ex) (s : St) : Option γ := match e with
  | .normal => useT K s.tm[3]?
  | _ => none
def st0 (a : List AVal) : St := { tm := firstOwn none (a.map (stripA · , .none)) ++ List.replicate (23 - a.length) (.undef, .none), lo := List.replicate 23 none, sg := [] }
def exprA (k n vk vn : Int) (vs tab col : ByteArray) (l : List (List Dat)) : AVal := .agg [(.int .i64 k, .none), (.int .i64 n, .none), (.int .i64 vk, .none), (.int .i64 vn, .none), (.str vs, .none), (.str tab, .none), (.str col, .none), (.sl l, .none)]
theorem upre_eq (p : Par) (x : Y.Ty_expr_Columns) (y : Y.Ty_types_Uses_L0) (k n vk vn : Int) (vs tab col : ByteArray) (l : List (List Dat)) (γ : Type) (K : List (List Dat) → Option γ) :
    evCK (cfgY p) (Y.T_types_Uses x y) (Y.L_types_Uses x y) 21 upre 0 γ (st0 [exprA k n vk vn vs tab col l]) (useK K) = Y.Sp.B_types_Uses x y k n vk vn vs tab col l γ K := by kernel_rfl
theorem upre_loops : loopsOf 0 upre = [(0, bodyOf Tryz.prog 21 0)] := by kernel_rfl
theorem loops_one {P : Program} {f b : Nat} {c : Code} (h : loopsOf b c = [(0, bodyOf P f 0)]) : ∀ p ∈ loopsOf b c, bodyOf P f p.1 = p.2 := by
  intro p hp
  rw [h] at hp
  rw [List.mem_singleton.1 hp]
theorem upre_run (p : Par) {k n vk vn : Int} {vs tab col : ByteArray} {l es : List (List Dat)} (h : Y.Sp.types_Uses k n vk vn vs tab col l (List (List Dat)) some = some es) :
    ∃ s', s'.tm[3]? = some (.dat (.sl es), .id 31 1) ∧ s'.tm.length = 23 ∧ ∀ (w0 : World) (M0 : Nat → Nat) (Q : Exit → Act → World → Prop) (rest : Code) (a : Act) (w : World), (∀ a' w', Done (cfgY p) w0 M0 [] noX s' a' w' → rest.wp Tryz.prog Q a' w') →
      Done (cfgY p) w0 M0 [] noX (st0 [exprA k n vk vn vs tab col l]) a w → (Code.seq UR0 (.seq UR1 (.seq ULP rest))).wp Tryz.prog Q a w := by
  have h1 := (upre_eq p Y.Sp.expr_Columns (Y.Sp.types_Uses_L0 fuel) k n vk vn vs tab col l _ some).trans h
  obtain ⟨ex, s', h2, h3⟩ := evCK_snd (C := cfgY p) (tab_loop (tab_call (tab_nil _) (Y.E_expr_Columns p (ent_none _ _))) (Y.E_types_Uses_L0 p fuel (entL_none _ _ _))) upre (loops_one upre_loops) h1
  have hx : ex = .normal ∧ s'.tm[3]? = some (.dat (.sl es), .id 31 1) := by
    unfold useK at h2
    cases ex with
    | normal =>
      refine ⟨rfl, ?_⟩
      have h2 : useT some s'.tm[3]? = some es := h2
      generalize s'.tm[3]? = e at h2 ⊢
      unfold useT at h2
      split at h2
      · cases h2; rfl
      · cases h2
    | _ => cases h2
  obtain ⟨rfl, ht⟩ := hx
  have h4 := h3 (Ex × St) fun e s => some (e, s)
  unfold upre at h4
  simp only [evC] at h4
  have hC := cfgY_ok p
  have hcall := callL_ok hC (primY_ok p)
  obtain ⟨e1, s1, k1, l1, o1, H1⟩ := evC_sound hC hcall iterL_some UR0 h4 (stOk_enter none (args := [exprA k n vk vn vs tab col l]) rfl 22 _ _)
  cases e1 with
  | exit i => cases k1
  | ret => cases k1
  | normal =>
  obtain ⟨e2, s2, k2, l2, o2, H2⟩ := evC_sound hC hcall iterL_some UR1 k1 o1
  cases e2 with
  | exit i => cases k2
  | ret => cases k2
  | normal =>
  obtain ⟨e3, s3, k3, l3, o3, H3⟩ := evC_sound hC hcall iterL_some ULP k2 o2
  cases k3
  refine ⟨s', ht, (l3.tm.trans l2.tm).trans l1.tm, fun w0 M0 Q rest a w hr hD => ?_⟩
  exact wp_seq (H1 w0 M0 [] noX _ a w (fun a1 w1 hD1 => wp_seq (H2 w0 M0 [] noX _ a1 w1 (fun a2 w2 hD2 => wp_seq (H3 w0 M0 [] noX _ a2 w2 (fun a3 w3 hD3 => hr a3 w3 hD3) hD2)) hD1)) hD)
end Go.Proofs.YtppilomaljgkoaaGreatDoor

/- CatalogTables: the law's statement, and the card: for every input the call answers true and leaves its arguments alone. -/
import Derived.Test.YtimdilbcijgadaaGreatDoorPI
import Derived.Test.YtimdilbcijgadaaGreatDoorKL
import Derived.Test.YtimdilbcijgadaaGreatDoorKU
import Derived.Test.YtimdilbcijgadaaGreatDoorKG
import Derived.Test.YtimdilbcijgadaaGreatDoorCards
import Derived.Test.YtimdilbcijgadaaGreatDoorTie
set_option linter.unusedVariables false
set_option linter.unusedSimpArgs false
set_option maxRecDepth 100000
namespace Go.Proofs.YtimdilbcijgadaaGreatDoor
open Go.ChangeShapes Go.WideShapes Go.ChangeAt Go.RowKit Go.Aev
namespace CatalogTables
theorem call (p : Par) (t0_ : Tb) (t1_ : Tb) (s2_ : List UInt8) (r3_ : List Vl) (ht0_ : Short t0_) (ht1_ : Short t1_) : callL (cfg p) 4 [.agg [(.str (mk t0_.name), .none), (.sl (t0_.cols.map encC), .none), (.sl (t0_.rows.map lEnc), .none)], .agg [(.str (mk t1_.name), .none), (.sl (t1_.cols.map encC), .none), (.sl (t1_.rows.map lEnc), .none)], .dat (.str (mk s2_)), .dat (.sl (r3_.map Vl.enc))] [] = some ([(.dat (.bool true), .none)], []) := by
  have h0 : ∀ X : Ty_law13_CatalogTables, P_law13_CatalogTables X none3 [.agg [(.str (mk t0_.name), .none), (.sl (t0_.cols.map encC), .none), (.sl (t0_.rows.map lEnc), .none)], .agg [(.str (mk t1_.name), .none), (.sl (t1_.cols.map encC), .none), (.sl (t1_.rows.map lEnc), .none)], .dat (.str (mk s2_)), .dat (.sl (r3_.map Vl.enc))] [] (List Ent × Sig) some = X (mk t0_.name) (t0_.cols.map encC) (t0_.rows.map lEnc) (mk t1_.name) (t1_.cols.map encC) (t1_.rows.map lEnc) (mk s2_) (r3_.map Vl.enc) (List Ent × Sig) (fun r0 => some ([(.dat (.bool r0), .none)], [])) := fun X => by kernel_rfl
  obtain ⟨r, h1, h2⟩ := E_law13_CatalogTables p (ent_none _ _) _ _ _ _ _ ((h0 Sp.law13_CatalogTables).trans (law_Tables lives_eq t0_ t1_ ht0_ ht1_ s2_ r3_ _ _))
  cases h2
  exact h1
theorem own : ownKnob Tryz.prog.godebug = none := by kernel_rfl
theorem contract (H : Type) (enc : TypeId × Value → H) (W : World) (base : Nat) (args : Array Value) (ds gs : List (DataW H)) (before : List MemPlace)
    (hval : ∀ (j : Nat) t v, Tryz.f4.params[j]? = some t → args[j]? = some v → Value.okWide Tryz.prog W .any base t v)
    (hW : DataW.Whole enc Tryz.prog Tryz.f4.params.toList Rows.catalogTablesSpec.vars false W args.toList ds gs before) (hL : laidMetH Tryz.prog Rows.catalogTablesRow.laid W) (hS : W.ShapedOpen Tryz.prog) (hK : Rows.uptoSmall H (ds ++ gs) = true) :
    Calls Tryz.prog 4 args W fun e W' => ∃ v, e = .returned v ∧ Rows.catalogTablesSpec.post enc Tryz.prog Tryz.f4 false true false false W args v W' := by
  have hW' := hW
  obtain ⟨p, q, hA0, hV, rfl, hfz, hnd⟩ := hW
  have hA : DataW.TrodAll enc Tryz.prog W 0 (fun _ => true) true Tryz.f4.params.toList args.toList ds p := hA0
  rw [Tryz.params4] at hA hval
  obtain ⟨v0, vs0, d0, ds0, p0, q0, hargs0, rfl, rfl, h0, r0⟩ := trodAll_cons hA
  obtain ⟨v1, vs1, d1, ds1, p1, q1, hargs1, rfl, rfl, h1, r1⟩ := trodAll_cons r0
  obtain ⟨v2, vs2, d2, ds2, p2, q2, hargs2, rfl, rfl, h2, r2⟩ := trodAll_cons r1
  obtain ⟨v3, vs3, d3, ds3, p3, q3, hargs3, rfl, rfl, h3, r3⟩ := trodAll_cons r2
  obtain ⟨rfl, rfl, rfl⟩ := trodAll_nil r3
  obtain rfl : args = #[v0, v1, v2, v3] := by cases args; simp_all
  obtain ⟨rfl, rfl⟩ := trodVars_none hV
  have hB := upto_txt hK
  obtain ⟨n0, x0, t0, k0⟩ := open_argB (B := 1048576) simples_ok (show 29 ∈ simples by decide) (hval 0 29 v0 rfl rfl) h0 (hB d0 (by simp))
  obtain ⟨t0_, rfl, ht0_⟩ := hasB_tab t0
  obtain ⟨n1, x1, t1, k1⟩ := open_argB (B := 1048576) simples_ok (show 29 ∈ simples by decide) (hval 1 29 v1 rfl rfl) h1 (hB d1 (by simp))
  obtain ⟨t1_, rfl, ht1_⟩ := hasB_tab t1
  obtain ⟨n2, x2, t2, k2⟩ := open_argB (B := 1048576) simples_ok (show 9 ∈ simples by decide) (hval 2 9 v2 rfl rfl) h2 (hB d2 (by simp))
  obtain ⟨s2_, rfl, _⟩ := hasB_str t2
  obtain ⟨n3, x3, t3, k3⟩ := open_argB (B := 1048576) simples_ok (show 38 ∈ simples by decide) (hval 3 38 v3 rfl rfl) h3 (hB d3 (by simp))
  obtain ⟨r3_, rfl⟩ := hasB_row t3
  obtain ⟨p, hg⟩ := globs hL hS
  refine contract_true (cfg_ok p) (prim_ok p) kids fulls hW' rfl ?_ rfl (tb := 4) (by kernel_rfl) Tryz.underlying4 rfl (call p t0_ t1_ s2_ r3_ ht0_ ht1_) rfl ?_ hg
  · intro t ht
    rw [Tryz.params4] at ht
    have hall : ([29, 29, 9, 38].all fun t => decide (t < Tryz.prog.types.size)) = true := by kernel_rfl
    have hm : t ∈ [29, 29, 9, 38] := by simpa using ht
    have := List.all_eq_true.1 hall t hm
    exact of_decide_eq_true this
  · intro i x v hx hv
    match i with
    | 0 => cases hx; cases hv; exact k0
    | 1 => cases hx; cases hv; exact k1
    | 2 => cases hx; cases hv; exact k2
    | 3 => cases hx; cases hv; exact k3
    | n + 4 => cases hx
def wargs : Array Value := #[.agg #[.string ⟨#[]⟩, .slice none 0 0, .slice none 0 0], .agg #[.string ⟨#[]⟩, .slice none 0 0, .slice none 0 0], .string ⟨#[]⟩, .slice none 0 0]
set_option maxRecDepth 100000 in
theorem laid_met (os : Os) : laidMet Tryz.prog Rows.catalogTablesRow.laid ((laidWorld os).forCall (fun _ _ => 0) ⟨#[], wargs, []⟩).memory :=
  laidMet_of_run' 8 (by kernel_rfl) (by kernel_rfl)
theorem reads (os : Os) {H : Type} (enc : TypeId × Value → H) : ∃ places, DataW.whole enc Tryz.prog ((laidWorld os).forCall (fun _ _ => 0) ⟨#[], wargs, []⟩).memory Tryz.f4.params.toList Rows.catalogTablesSpec.vars false wargs.toList 8 = some ([.agg [.lit (.string []), .nil, .nil], .agg [.lit (.string []), .nil, .nil], .lit (.string []), .nil], [], places) :=
  ⟨[], by kernel_rfl⟩

set_option maxRecDepth 100000 in
theorem lifted (os : Os) (started : os.Started) (H : Type) (enc : TypeId × Value → H) (F : Stop.Interp) :
    ReturnsInHanded {} Tryz.checked os 4 .any ((Rows.OpenSpec.upto Rows.catalogTablesSpec).preRow enc Tryz.prog Tryz.f4 Rows.catalogTablesUptoRow.domain false Rows.catalogTablesUptoRow.laid) (((Rows.OpenSpec.upto Rows.catalogTablesSpec).at F).post enc Tryz.prog Tryz.f4 false true false false) := by
  obtain ⟨places, hx⟩ := reads os enc
  refine returnsInHanded_of_row (C := Tryz.checked) (s := Rows.OpenSpec.upto Rows.catalogTablesSpec) own started (by kernel_rfl) Tryz.func4
    (witness_row_at (enc := enc) (C := Tryz.checked) false (laidWorld os) wargs rfl (by kernel_rfl) (by kernel_rfl) (by kernel_rfl)
      (OpenSpec.preRow_of_cond 8 hx (by kernel_rfl) (fun k hk => by cases hk; kernel_rfl) (by kernel_rfl) (laid_met os))) ?_
  intro W base args ds gs before hval hW _ hC _ hL hS _
  exact contract H enc W base args ds gs before hval hW hL hS (hC _ rfl)

theorem said : Rows.CatalogTablesUptoSaid :=
  OpenClaim.holds_of_cond 4 Tryz.f4 rfl rfl rfl rfl rfl rfl rfl ⟨rfl, rfl, rfl, rfl, rfl⟩ rfl rfl rfl rfl rfl (by kernel_rfl) Tryz.func4 (by kernel_rfl)
    (of_decide_eq_true (by kernel_rfl)) (by unfold Func.isWrapper; first | (rw [if_pos (by decide +kernel)]; kernel_rfl) | (rw [if_neg (by decide +kernel)]; exact ⟨rfl, rfl⟩))
    (fun os started H enc _ F => by rw [OpenClaim.pre_eq_preRow]; exact lifted os started H enc F)

theorem plain (f : FuncId) (fn : Func) (hf : Tryz.pinned.checked.prog.funcNamed "commissary/commissarylaw13.CatalogTables" = some f) (hfn : Tryz.pinned.checked.prog.funcs[f]? = some fn) :
    false = Tryz.pinned.checked.prog.looks [] ∧ ∀ (j : Nat) t, fn.params[j]? = some t → Tryz.pinned.checked.prog.wantsStandIn t = false := by
  obtain rfl : f = 4 := Option.some.inj ((show Tryz.prog.funcNamed "commissary/commissarylaw13.CatalogTables" = some 4 by kernel_rfl).symm.trans hf) |>.symm
  obtain rfl : fn = Tryz.f4 := (Option.some.inj (Tryz.func4.symm.trans hfn)).symm
  refine ⟨by kernel_rfl, fun j t ht => ?_⟩
  rw [Tryz.params4] at ht
  have hall : ([29, 29, 9, 38].all fun t => !Tryz.prog.wantsStandIn t) = true := by kernel_rfl
  have hm : t ∈ [29, 29, 9, 38] := by simpa using Array.mem_of_getElem? ht
  have := List.all_eq_true.1 hall t hm
  simp only [Bool.not_eq_true'] at this
  exact this

theorem card : Rows.CatalogTablesUptoCardSaid :=
  Claim7.holds_tied_plain_at .later [] _ _ _ _ said (fun _ h => by cases h) (by kernel_rfl) (fun _ h => by cases h) catalogTablesUpto_row_tie rfl ⟨rfl, rfl⟩ (by kernel_rfl) rfl plain (by kernel_rfl)
end CatalogTables
end Go.Proofs.YtimdilbcijgadaaGreatDoor

/- CatalogAdds: the law's statement, and the card: for every input the call answers true and leaves its arguments alone. -/
import Derived.Test.YtimdilbcijgadaaGreatDoorPJ
import Derived.Test.YtimdilbcijgadaaGreatDoorKL
import Derived.Test.YtimdilbcijgadaaGreatDoorKG
import Derived.Test.YtimdilbcijgadaaGreatDoorCards
import Derived.Test.YtimdilbcijgadaaGreatDoorTie
set_option linter.unusedVariables false
set_option linter.unusedSimpArgs false
set_option maxRecDepth 100000
namespace Go.Proofs.YtimdilbcijgadaaGreatDoor
open Go.ChangeShapes Go.WideShapes Go.ChangeAt Go.RowKit Go.Aev
namespace CatalogAdds
theorem call (p : Par) (c0_ : List Tb) (t1_ : Tb) (hc0_ : ∀ t ∈ c0_, t.Named) (ht1_ : t1_.Named) : callL (cfg p) 7 [.dat (.sl (c0_.map encT)), .agg [(.str (mk t1_.name), .none), (.sl (t1_.cols.map encC), .none), (.sl (t1_.rows.map lEnc), .none)]] [] = some ([(.dat (.bool true), .none)], []) := by
  have h0 : ∀ X : Ty_law13_CatalogAdds, P_law13_CatalogAdds X none3 [.dat (.sl (c0_.map encT)), .agg [(.str (mk t1_.name), .none), (.sl (t1_.cols.map encC), .none), (.sl (t1_.rows.map lEnc), .none)]] [] (List Ent × Sig) some = X (c0_.map encT) (mk t1_.name) (t1_.cols.map encC) (t1_.rows.map lEnc) (List Ent × Sig) (fun r0 => some ([(.dat (.bool r0), .none)], [])) := fun X => by kernel_rfl
  obtain ⟨r, h1, h2⟩ := E_law13_CatalogAdds p (ent_none _ _) _ _ _ _ _ ((h0 Sp.law13_CatalogAdds).trans (law_Adds lives_eq c0_ hc0_ t1_ ht1_ _ _))
  cases h2
  exact h1
theorem own : ownKnob Tryz.prog.godebug = none := by kernel_rfl
theorem contract (H : Type) (enc : TypeId × Value → H) (W : World) (base : Nat) (args : Array Value) (ds gs : List (DataW H)) (before : List MemPlace)
    (hval : ∀ (j : Nat) t v, Tryz.f7.params[j]? = some t → args[j]? = some v → Value.okWide Tryz.prog W .any base t v)
    (hW : DataW.Whole enc Tryz.prog Tryz.f7.params.toList Rows.catalogAddsSpec.vars false W args.toList ds gs before) (hL : laidMetH Tryz.prog Rows.catalogAddsRow.laid W) (hS : W.ShapedOpen Tryz.prog) :
    Calls Tryz.prog 7 args W fun e W' => ∃ v, e = .returned v ∧ Rows.catalogAddsSpec.post enc Tryz.prog Tryz.f7 false true false false W args v W' := by
  have hW' := hW
  obtain ⟨p, q, hA0, hV, rfl, hfz, hnd⟩ := hW
  have hA : DataW.TrodAll enc Tryz.prog W 0 (fun _ => true) true Tryz.f7.params.toList args.toList ds p := hA0
  rw [Tryz.params7] at hA hval
  obtain ⟨v0, vs0, d0, ds0, p0, q0, hargs0, rfl, rfl, h0, r0⟩ := trodAll_cons hA
  obtain ⟨v1, vs1, d1, ds1, p1, q1, hargs1, rfl, rfl, h1, r1⟩ := trodAll_cons r0
  obtain ⟨rfl, rfl, rfl⟩ := trodAll_nil r1
  obtain rfl : args = #[v0, v1] := by cases args; simp_all
  obtain ⟨rfl, rfl⟩ := trodVars_none hV
  obtain ⟨n0, x0, t0, k0⟩ := open_arg simples_ok (show 22 ∈ simples by decide) (hval 0 22 v0 rfl rfl) h0
  obtain ⟨c0_, rfl, hc0_⟩ := has_tabs t0
  obtain ⟨n1, x1, t1, k1⟩ := open_arg simples_ok (show 29 ∈ simples by decide) (hval 1 29 v1 rfl rfl) h1
  obtain ⟨t1_, rfl, ht1_⟩ := has_tab t1
  obtain ⟨p, hg⟩ := globs hL hS
  refine contract_true (cfg_ok p) (prim_ok p) kids fulls hW' rfl ?_ rfl (tb := 4) (by kernel_rfl) Tryz.underlying4 rfl (call p c0_ t1_ hc0_ ht1_) rfl ?_ hg
  · intro t ht
    rw [Tryz.params7] at ht
    have hall : ([22, 29].all fun t => decide (t < Tryz.prog.types.size)) = true := by kernel_rfl
    have hm : t ∈ [22, 29] := by simpa using ht
    have := List.all_eq_true.1 hall t hm
    exact of_decide_eq_true this
  · intro i x v hx hv
    match i with
    | 0 => cases hx; cases hv; exact k0
    | 1 => cases hx; cases hv; exact k1
    | n + 2 => cases hx
def wargs : Array Value := #[.slice none 0 0, .agg #[.string ⟨#[]⟩, .slice none 0 0, .slice none 0 0]]
set_option maxRecDepth 100000 in
theorem laid_met (os : Os) : laidMet Tryz.prog Rows.catalogAddsRow.laid ((laidWorld os).forCall (fun _ _ => 0) ⟨#[], wargs, []⟩).memory :=
  laidMet_of_run' 8 (by kernel_rfl) (by kernel_rfl)
theorem reads (os : Os) {H : Type} (enc : TypeId × Value → H) : ∃ places, DataW.whole enc Tryz.prog ((laidWorld os).forCall (fun _ _ => 0) ⟨#[], wargs, []⟩).memory Tryz.f7.params.toList Rows.catalogAddsSpec.vars false wargs.toList 8 = some ([.nil, .agg [.lit (.string []), .nil, .nil]], [], places) :=
  ⟨[], by kernel_rfl⟩

set_option maxRecDepth 100000 in
theorem lifted (os : Os) (started : os.Started) (H : Type) (enc : TypeId × Value → H) (F : Stop.Interp) :
    ReturnsInHanded {} Tryz.checked os 7 .any ((OpenSpec.ofChange Rows.catalogAddsSpec).preRow enc Tryz.prog Tryz.f7 Rows.catalogAddsRow.domain false Rows.catalogAddsRow.laid) (((OpenSpec.ofChange Rows.catalogAddsSpec).at F).post enc Tryz.prog Tryz.f7 false true false false) := by
  obtain ⟨places, hx⟩ := reads os enc
  refine returnsInHanded_of_row (C := Tryz.checked) (s := OpenSpec.ofChange Rows.catalogAddsSpec) own started (by kernel_rfl) Tryz.func7
    (witness_row_at (enc := enc) (C := Tryz.checked) false (laidWorld os) wargs rfl (by kernel_rfl) (by kernel_rfl) (by kernel_rfl)
      (OpenSpec.preRow_of_cond 8 hx (by kernel_rfl) (fun k hk => by cases hk) (by kernel_rfl) (laid_met os))) ?_
  intro W base args ds gs before hval hW _ _ _ hL hS _
  exact contract H enc W base args ds gs before hval hW hL hS

theorem said : Rows.CatalogAddsSaid :=
  OpenClaim.holds_of_cond 7 Tryz.f7 rfl rfl rfl rfl rfl rfl rfl ⟨rfl, rfl, rfl, rfl, rfl⟩ rfl rfl rfl rfl rfl (by kernel_rfl) Tryz.func7 (by kernel_rfl)
    (of_decide_eq_true (by kernel_rfl)) (by unfold Func.isWrapper; first | (rw [if_pos (by decide +kernel)]; kernel_rfl) | (rw [if_neg (by decide +kernel)]; exact ⟨rfl, rfl⟩))
    (fun os started H enc _ F => by rw [OpenClaim.pre_eq_preRow]; exact lifted os started H enc F)

theorem plain (f : FuncId) (fn : Func) (hf : Tryz.pinned.checked.prog.funcNamed "commissary/commissarylaw13.CatalogAdds" = some f) (hfn : Tryz.pinned.checked.prog.funcs[f]? = some fn) :
    false = Tryz.pinned.checked.prog.looks [] ∧ ∀ (j : Nat) t, fn.params[j]? = some t → Tryz.pinned.checked.prog.wantsStandIn t = false := by
  obtain rfl : f = 7 := Option.some.inj ((show Tryz.prog.funcNamed "commissary/commissarylaw13.CatalogAdds" = some 7 by kernel_rfl).symm.trans hf) |>.symm
  obtain rfl : fn = Tryz.f7 := (Option.some.inj (Tryz.func7.symm.trans hfn)).symm
  refine ⟨by kernel_rfl, fun j t ht => ?_⟩
  rw [Tryz.params7] at ht
  have hall : ([22, 29].all fun t => !Tryz.prog.wantsStandIn t) = true := by kernel_rfl
  have hm : t ∈ [22, 29] := by simpa using Array.mem_of_getElem? ht
  have := List.all_eq_true.1 hall t hm
  simp only [Bool.not_eq_true'] at this
  exact this

theorem card : Rows.CatalogAddsCardSaid :=
  Claim7.holds_tied_plain_at .later [] _ _ _ _ said (fun _ h => by cases h) (by kernel_rfl) (fun _ h => by cases h) catalogAdds_row_tie rfl ⟨rfl, rfl⟩ (by kernel_rfl) rfl plain (by kernel_rfl)
end CatalogAdds
end Go.Proofs.YtimdilbcijgadaaGreatDoor

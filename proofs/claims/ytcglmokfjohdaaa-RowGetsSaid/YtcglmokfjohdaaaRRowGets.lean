/- RowGets: the law's statement, and the card: for every input the call answers true and leaves its arguments alone. -/
import Derived.Test.YtcglmokfjohdaaaKF
import Derived.Test.YtcglmokfjohdaaaKL
import Derived.Test.YtcglmokfjohdaaaKG
set_option linter.unusedVariables false
set_option linter.unusedSimpArgs false
set_option maxRecDepth 100000
namespace Go.Proofs.Ytcglmokfjohdaaa
open Go.ChangeShapes Go.WideShapes Go.ChangeAt Go.RowKit Go.Aev
namespace RowGets
theorem call (p : Par) (l0_ : List UInt8)  : callL (cfg p) 4 [.dat (.sl (l0_.map uEnc))] [] = some ([(.dat (.bool true), .none)], []) := by
  have h0 : ∀ X : Ty_law02_RowGets, P_law02_RowGets X none3 [.dat (.sl (l0_.map uEnc))] [] (List Ent × Sig) some = X (l0_.map uEnc) (List Ent × Sig) (fun r0 => some ([(.dat (.bool r0), .none)], [])) := fun X => by kernel_rfl
  obtain ⟨r, h1, h2⟩ := E_law02_RowGets p (ent_none _ _) _ _ _ _ _ ((h0 Sp.law02_RowGets).trans (gets lives_eq l0_ _ _))
  cases h2
  exact h1
theorem own : ownKnob Try.prog.godebug = none := by kernel_rfl
theorem contract (H : Type) (enc : TypeId × Value → H) (W : World) (base : Nat) (args : Array Value) (ds gs : List (DataW H)) (before : List MemPlace)
    (hval : ∀ (j : Nat) t v, Try.f4.params[j]? = some t → args[j]? = some v → Value.okWide Try.prog W .any base t v)
    (hW : DataW.Whole enc Try.prog Try.f4.params.toList Rows.rowGetsSpec.vars false W args.toList ds gs before) (hL : laidMetH Try.prog Rows.rowGetsRow.laid W) (hS : W.ShapedOpen Try.prog) :
    Calls Try.prog 4 args W fun e W' => ∃ v, e = .returned v ∧ Rows.rowGetsSpec.post enc Try.prog Try.f4 false true false false W args v W' := by
  have hW' := hW
  obtain ⟨p, q, hA0, hV, rfl, hfz, hnd⟩ := hW
  have hA : DataW.TrodAll enc Try.prog W 0 (fun _ => true) true Try.f4.params.toList args.toList ds p := hA0
  rw [Try.params4] at hA hval
  obtain ⟨v0, vs0, d0, ds0, p0, q0, hargs0, rfl, rfl, h0, r0⟩ := trodAll_cons hA
  obtain ⟨rfl, rfl, rfl⟩ := trodAll_nil r0
  obtain rfl : args = #[v0] := by cases args; simp_all
  obtain ⟨rfl, rfl⟩ := trodVars_none hV
  obtain ⟨n0, x0, t0, k0⟩ := open_arg simples_ok (show 23 ∈ simples by decide) (hval 0 23 v0 rfl rfl) h0
  obtain ⟨l0_, rfl⟩ := has_bytes t0
  obtain ⟨p, hg⟩ := globs hL hS
  refine contract_true (cfg_ok p) (prim_ok p) kids fulls hW' rfl ?_ rfl (tb := 4) (by kernel_rfl) Try.underlying4 rfl (call p l0_) rfl ?_ hg
  · intro t ht
    rw [Try.params4] at ht
    have hall : ([23].all fun t => decide (t < Try.prog.types.size)) = true := by kernel_rfl
    have hm : t ∈ [23] := by simpa using ht
    have := List.all_eq_true.1 hall t hm
    exact of_decide_eq_true this
  · intro i x v hx hv
    match i with
    | 0 => cases hx; cases hv; exact k0
    | n + 1 => cases hx
def wargs : Array Value := #[.slice none 0 0]
set_option maxRecDepth 100000 in
theorem laid_met (os : Os) : laidMet Try.prog Rows.rowGetsRow.laid ((laidWorld os).forCall (fun _ _ => 0) ⟨#[], wargs, []⟩).memory :=
  laidMet_of_run' 8 (by kernel_rfl) (by kernel_rfl)
theorem reads (os : Os) {H : Type} (enc : TypeId × Value → H) : ∃ places, DataW.whole enc Try.prog ((laidWorld os).forCall (fun _ _ => 0) ⟨#[], wargs, []⟩).memory Try.f4.params.toList Rows.rowGetsSpec.vars false wargs.toList 8 = some ([.nil], [], places) :=
  ⟨[], by kernel_rfl⟩

set_option maxRecDepth 100000 in
theorem lifted (os : Os) (started : os.Started) (H : Type) (enc : TypeId × Value → H) (F : Stop.Interp) :
    ReturnsInHanded {} Try.checked os 4 .any ((OpenSpec.ofChange Rows.rowGetsSpec).preRow enc Try.prog Try.f4 Rows.rowGetsRow.domain false Rows.rowGetsRow.laid) (((OpenSpec.ofChange Rows.rowGetsSpec).at F).post enc Try.prog Try.f4 false true false false) := by
  obtain ⟨places, hx⟩ := reads os enc
  refine returnsInHanded_of_row (C := Try.checked) (s := OpenSpec.ofChange Rows.rowGetsSpec) own started (by kernel_rfl) Try.func4
    (witness_row_at (enc := enc) (C := Try.checked) false (laidWorld os) wargs rfl (by kernel_rfl) (by kernel_rfl) (by kernel_rfl)
      (OpenSpec.preRow_of_cond 8 hx (by kernel_rfl) (fun k hk => by cases hk) (by kernel_rfl) (laid_met os))) ?_
  intro W base args ds gs before hval hW _ _ _ hL hS _
  exact contract H enc W base args ds gs before hval hW hL hS

theorem said : Rows.RowGetsSaid :=
  OpenClaim.holds_of_cond 4 Try.f4 rfl rfl rfl rfl rfl rfl rfl ⟨rfl, rfl, rfl, rfl, rfl⟩ rfl rfl rfl rfl rfl (by kernel_rfl) Try.func4 (by kernel_rfl)
    (of_decide_eq_true (by kernel_rfl)) (by unfold Func.isWrapper; first | (rw [if_pos (by decide +kernel)]; kernel_rfl) | (rw [if_neg (by decide +kernel)]; exact ⟨rfl, rfl⟩))
    (fun os started H enc _ F => by rw [OpenClaim.pre_eq_preRow]; exact lifted os started H enc F)

end RowGets
end Go.Proofs.Ytcglmokfjohdaaa

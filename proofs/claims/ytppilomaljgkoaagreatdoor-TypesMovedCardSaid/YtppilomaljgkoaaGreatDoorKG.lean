/- The tables that the rows list; the types of the arguments. -/
import Derived.Test.YtppilomaljgkoaaGreatDoorK8
import Derived.LaidHandle
import Derived.FnData
import Derived.Test.YtppilomaljgkoaaGreatDoorAevD
import Derived.Test.YtppilomaljgkoaaGreatDoorRows
import Derived.KernelRfl
set_option linter.unusedVariables false
set_option linter.unusedSimpArgs false
set_option maxRecDepth 100000
namespace Go.Proofs.YtppilomaljgkoaaGreatDoor
open Go.Aev Go.RowKit
theorem tErr : Tryz.prog.globalNamed "errors.errorType" = some 0 := by kernel_rfl
theorem tRt : (Tryz.prog.cutTypes.find? (·.1 == "internal/reflectlite.rtype")).map (·.2) = some 126 := by kernel_rfl
theorem tSize : Tryz.prog.types.size = 201 := by kernel_rfl
theorem tOne : ((List.range 201).filter fun t => Tryz.prog.rowNamed t [101, 114, 114, 111, 114]) = [64] := by kernel_rfl
def laidL : List (String × DataW Unit) := Rows.typesFindsRow.laid
theorem handle_of_laid {W : World} (h : laidMetH Tryz.prog laidL W) : W.cell? ⟨0, 0, none⟩ = some (.iface 126 (.agg #[.pointer (some ⟨4, 64, none⟩)])) := by
  have h' : laidMet Tryz.prog [("unicode/utf8.acceptRanges", Rows.laid_unicode_utf8_acceptRanges), ("unicode/utf8.first", Rows.laid_unicode_utf8_first)] W ∧ handlesMet Tryz.prog [("errors.errorType", Rows.laid_errors_errorType)] W := h
  obtain ⟨name, u, ty, e1, e2, e3, e4, e5⟩ := h'.2 _ (List.mem_singleton.2 rfl)
  have en : name = [101, 114, 114, 111, 114] := (Option.some.inj e1).symm
  subst en
  obtain rfl := Option.some.inj (tRt.symm.trans e2)
  have hm : ty ∈ (List.range 201).filter fun t => Tryz.prog.rowNamed t [101, 114, 114, 111, 114] := List.mem_filter.2 ⟨List.mem_range.2 (by rw [← tSize]; exact e3), e4⟩
  rw [tOne] at hm
  obtain rfl := List.mem_singleton.1 hm
  have hh : typeHandle Tryz.prog 64 = .pointer (some ⟨4, 64, none⟩) := by kernel_rfl
  rw [hh] at e5
  simpa using World.var?_cell tErr e5 0
theorem globs {W : World} (h : laidMetH Tryz.prog laidL W) (hsh : W.ShapedOpen Tryz.prog) : ∃ p, GlobOk (cfg p) W (sizes W) := by
  obtain ⟨m, hm⟩ : ∃ m, W.cell? ⟨1, 0, none⟩ = some (.int .i64 m) :=
    Go.Proofs.cell_of_shapedOpen_int (zero := #[.int .i64 0]) (t := 3) hsh (of_decide_eq_true (by kernel_rfl)) (by kernel_rfl) rfl (by kernel_rfl) (by kernel_rfl) Tryz.underlying3
  have h0 := handle_of_laid h
  have hM := below_sizes h0
  obtain ⟨o, ho, hc⟩ : ∃ o, W.heap[0]? = some o ∧ ∃ cur T fr, o = Obj.cells cur T fr ∧ cur[0]? = some (Value.iface 126 (.agg #[.pointer (some ⟨4, 64, none⟩)])) := by
    unfold World.cell? at h0
    cases hw : W.heap[0]? with
    | none => simp [hw] at h0
    | some o =>
      refine ⟨o, rfl, ?_⟩
      cases o with
      | cells cur T fr => refine ⟨cur, T, fr, rfl, ?_⟩; simpa [hw] using h0
      | _ => simp [hw] at h0
  have r1 : RepB W (sizes W) [] (.imm [.int .i64 m]) (.pointer (some ⟨1, 0, none⟩)) := by
    refine .imm (fun _ => .int .i64 m) rfl (fun k hk => ?_) fun k d hd => ?_
    · have : k = 0 := by simp at hk; omega
      subst this
      exact ⟨hm, below_sizes hm⟩
    · cases k with
      | zero =>
        simp only [List.getElem?_cons_zero, Option.some.injEq] at hd
        subst hd
        exact .int _ _
      | succ k => simp at hd
  refine ⟨⟨m, o, hc⟩, fun i cells hc => ?_, fun i o' hc => ?_⟩
  · have hc : globT m i = some cells := hc
    unfold globT at hc
    split at hc
    · cases hc; exact r1
    · cases hc
  · have hc : cond (i == 0) (some o) none = some o' := hc
    cases hi : (i == 0) with
    | false => rw [hi] at hc; cases hc
    | true =>
      rw [hi] at hc
      cases hc
      have : i = 0 := by simpa using hi
      subst this
      exact ⟨ho, hM⟩
def simples : List TypeId := [3, 4, 9, 32, 33, 35, 42, 52, 22]
theorem simples_ok : simpleSet Tryz.prog simples = true := by kernel_rfl
theorem kids : Kids Tryz.prog (· < Tryz.prog.types.size) := kids_rows (by kernel_rfl) (by kernel_rfl)
theorem fulls : ∀ t e, t < Tryz.prog.types.size → Tryz.prog.underlying t = some (.slice e) → 0 < Tryz.prog.cellsOf e := slices_full_of _ (by kernel_rfl)
theorem has_int {n : Nat} {ds : List Dat} (h : hasT Tryz.prog n 3 ds) : ∃ x, ds = [.int .i64 x] ∧ -9223372036854775808 ≤ x ∧ x ≤ 9223372036854775807 := by
  cases n with
  | zero => exact h.elim
  | succ n =>
    unfold hasT at h
    rw [Tryz.underlying3] at h
    obtain ⟨x, rfl, hw⟩ := h
    exact ⟨x, rfl, bounds_i64 hw⟩
theorem has_string {n : Nat} {ds : List Dat} (h : hasT Tryz.prog n 9 ds) : ∃ s, ds = [.str s] ∧ s.size ≤ maxLen := by
  cases n with
  | zero => exact h.elim
  | succ n =>
    unfold hasT at h
    rw [Tryz.underlying9] at h
    exact h
theorem has_fo : ∀ {es : List (List Dat)}, (∀ c ∈ es, ∃ h ks, c = encE h ks) → ∃ F : Fo, es = F.enc
  | [], _ => ⟨.nil, rfl⟩
  | e :: es, h => by
    obtain ⟨x, ks, rfl⟩ := h e (by simp)
    obtain ⟨r, rfl⟩ := has_fo (es := es) fun c hc => h c (List.mem_cons_of_mem _ hc)
    exact ⟨.cons x ks r, rfl⟩
theorem has_Value {n : Nat} {ds : List Dat} (h : hasT Tryz.prog n 32 ds) : ∃ x y s, ds = [.int .i64 x, .int .i64 y, .str s] := by
  cases n with
  | zero => exact h.elim
  | succ n =>
    unfold hasT at h
    rw [Tryz.underlying32] at h
    obtain ⟨a, b, rfl, h1, a2, b2, rfl, h2, a3, b3, rfl, h3, rfl⟩ := h
    obtain ⟨x, rfl, _⟩ := has_int h1
    obtain ⟨y, rfl, hy⟩ := has_int h2
    obtain ⟨s, rfl, _⟩ := has_string h3
    exact ⟨x, y, s, rfl⟩
theorem has_expr : ∀ {n : Nat} {ds : List Dat}, hasT Tryz.prog n 35 ds → ∃ h ks, ds = encE h ks := by
  intro n
  induction n using Nat.strongRecOn with
  | ind n ih =>
    intro ds h
    cases n with
    | zero => exact h.elim
    | succ n =>
      unfold hasT at h
      rw [Tryz.underlying35] at h
      obtain ⟨a, b, rfl, h1, a2, b2, rfl, h2, a3, b3, rfl, h3, a4, b4, rfl, h4, a5, b5, rfl, h5, a6, b6, rfl, h6, rfl⟩ := h
      obtain ⟨k, rfl, _⟩ := has_int h1
      obtain ⟨m, rfl, _⟩ := has_int h2
      obtain ⟨vk, vn, vs, rfl⟩ := has_Value h3
      obtain ⟨tab, rfl, _⟩ := has_string h4
      obtain ⟨col, rfl, _⟩ := has_string h5
      cases n with
      | zero => exact h6.elim
      | succ n =>
        change hasT Tryz.prog (n + 1) 33 a6 at h6
        unfold hasT at h6
        rw [Tryz.underlying33] at h6
        obtain ⟨es, rfl, _, he⟩ := h6
        obtain ⟨F, rfl⟩ := has_fo fun c hc => ih n (by omega) (he c hc)
        obtain ⟨vs, rfl⟩ := exists_mk vs
        obtain ⟨tab, rfl⟩ := exists_mk tab
        obtain ⟨col, rfl⟩ := exists_mk col
        exact ⟨⟨k, m, vk, vn, vs, tab, col⟩, F, rfl⟩
theorem has_str {n : Nat} {ds : List Dat} (h : hasT Tryz.prog n 9 ds) : ∃ s, ds = [.str (mk s)] := by
  obtain ⟨s, rfl, _⟩ := has_string h
  obtain ⟨s, rfl⟩ := exists_mk s
  exact ⟨s, rfl⟩
theorem has_col {n : Nat} {ds : List Dat} (h : hasT Tryz.prog n 52 ds) : ∃ c : Co, ds = encC c := by
  cases n with
  | zero => exact h.elim
  | succ n =>
    unfold hasT at h
    rw [Tryz.underlying52] at h
    obtain ⟨a, b, rfl, h1, a2, b2, rfl, h2, a3, b3, rfl, h3, rfl⟩ := h
    obtain ⟨x, rfl⟩ := has_str h1
    obtain ⟨y, rfl⟩ := has_str h2
    obtain ⟨t, rfl, _⟩ := has_int h3
    exact ⟨⟨x, y, t⟩, rfl⟩
theorem all_of {α : Type} (f : α → List Dat) : ∀ {es : List (List Dat)}, (∀ c ∈ es, ∃ v : α, c = f v) → ∃ l : List α, es = l.map f
  | [], _ => ⟨[], rfl⟩
  | e :: es, h => by
    obtain ⟨v, rfl⟩ := h e (List.mem_cons_self ..)
    obtain ⟨l, rfl⟩ := all_of f (es := es) fun c hc => h c (List.mem_cons_of_mem _ hc)
    exact ⟨v :: l, rfl⟩
theorem has_cols {n : Nat} {ds : List Dat} (h : hasT Tryz.prog n 22 ds) : ∃ l : List Co, ds = [.sl (l.map encC)] := by
  cases n with
  | zero => exact h.elim
  | succ n =>
    unfold hasT at h
    rw [Tryz.underlying22] at h
    obtain ⟨es, rfl, _, h⟩ := h
    obtain ⟨l, rfl⟩ := all_of encC fun c hc => has_col (h c hc)
    exact ⟨l, rfl⟩
theorem has_ints {n : Nat} {ds : List Dat} (h : hasT Tryz.prog n 42 ds) : ∃ l : List Int, ds = [.sl (l.map iEnc)] := by
  cases n with
  | zero => exact h.elim
  | succ n =>
    unfold hasT at h
    rw [Tryz.underlying42] at h
    obtain ⟨es, rfl, _, h⟩ := h
    obtain ⟨l, rfl⟩ := all_of iEnc fun c hc => by
      obtain ⟨x, rfl, _⟩ := has_int (h c hc)
      exact ⟨x, rfl⟩
    exact ⟨l, rfl⟩
theorem has_num {n : Nat} {ds : List Dat} (h : hasT Tryz.prog n 3 ds) : ∃ x, ds = [.int .i64 x] := by
  obtain ⟨x, rfl, _⟩ := has_int h
  exact ⟨x, rfl⟩
def flatV : Nat → DataW Unit → List Value
  | _, .lit (.int k n) => [.int k n]
  | _, .lit (.string l) => [.string ⟨l.toArray⟩]
  | n + 1, .agg l => l.flatMap (flatV n)
  | _, .iface _ _ => [.iface 126 (.agg #[.pointer (some ⟨4, 64, none⟩)])]
  | _, _ => []
noncomputable def laidHeap (h : Array Obj) : List (String × DataW Unit) → Array Obj
  | [] => h
  | (n, d) :: r => laidHeap (h.modify ((Tryz.prog.globalNamed n).getD 0) fun
      | .cells _ t frozen => .cells (flatV 5 d).toArray t frozen
      | o => o) r
noncomputable def laidWorld (os : Os) : World :=
  { World.holding Tryz.prog os ⟨#[], #[], []⟩ with heap := laidHeap (World.holding Tryz.prog os ⟨#[], #[], []⟩).heap laidL }
end Go.Proofs.YtppilomaljgkoaaGreatDoor

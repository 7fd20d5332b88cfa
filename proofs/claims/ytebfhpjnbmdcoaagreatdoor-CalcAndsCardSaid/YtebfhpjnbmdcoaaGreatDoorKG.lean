/- The tables that the rows list; the types of the arguments. -/
import Derived.Test.YtebfhpjnbmdcoaaGreatDoorKT
import Derived.Test.YtebfhpjnbmdcoaaGreatDoorAevE
import Derived.Test.YtebfhpjnbmdcoaaGreatDoorAevD
import Derived.Test.YtebfhpjnbmdcoaaGreatDoorRows
import Derived.KernelRfl
set_option linter.unusedVariables false
set_option linter.unusedSimpArgs false
set_option maxRecDepth 100000
namespace Go.Proofs.YtebfhpjnbmdcoaaGreatDoor
open Go.Aev Go.RowKit

theorem gAnds : Tryz.prog.globalNamed "commissary/value.ands" = some 1 := by kernel_rfl
theorem gNots : Tryz.prog.globalNamed "commissary/value.nots" = some 0 := by kernel_rfl
theorem tAnds : (Tryz.prog.globals[1]?).map (·.type) = some 87 := by kernel_rfl
theorem tNots : (Tryz.prog.globals[0]?).map (·.type) = some 80 := by kernel_rfl

theorem globs {W : World} (h : laidMet Tryz.prog Rows.calcAndsRow.laid W) (hsh : W.ShapedOpen Tryz.prog) : ∃ p, GlobOk (cfg p) W (sizes W) := by
  obtain ⟨m, hm⟩ : ∃ m, W.cell? ⟨2, 0, none⟩ = some (.int .i64 m) :=
    Go.Proofs.cell_of_shapedOpen_int (zero := #[.int .i64 0]) (t := 3) hsh (of_decide_eq_true (by kernel_rfl)) (by kernel_rfl) rfl (by kernel_rfl) (by kernel_rfl) Tryz.underlying3
  obtain ⟨ps, hL, -⟩ := h
  obtain ⟨_, _, _, _, _, _, _, _, _, _, hL, _⟩ := hL
  obtain ⟨g1, t1, cs1, f1, p1, _, hg1, ht1, hv1, hd1, hL, _⟩ := hL
  obtain ⟨g0, t0, cs0, f0, p0, _, hg0, ht0, hv0, hd0, hL, _⟩ := hL
  obtain rfl := Option.some.inj (gAnds.symm.trans hg1)
  obtain rfl := Option.some.inj (tAnds.symm.trans ht1)
  obtain rfl := Option.some.inj (gNots.symm.trans hg0)
  obtain rfl := Option.some.inj (tNots.symm.trans ht0)
  have r1 := imm_of_var (n := 5) gAnds hv1 hd1 (ds := [.int .i64 0, .int .i64 0, .int .i64 0, .int .i64 0, .int .i64 1, .int .i64 2, .int .i64 0, .int .i64 2, .int .i64 2]) (by kernel_rfl)
  have r0 := imm_of_var (n := 5) gNots hv0 hd0 (ds := [.int .i64 1, .int .i64 0, .int .i64 2]) (by kernel_rfl)
  have r3 : RepB W (sizes W) [] (.imm [.int .i64 m]) (.pointer (some ⟨2, 0, none⟩)) := by
    refine .imm (fun _ => .int .i64 m) rfl (fun k hk => ?_) fun k d hd => ?_
    · have : k = 0 := by simp at hk; omega
      subst this
      exact ⟨hm, below_sizes hm⟩
    · cases k with
      | zero =>
        simp only [List.getElem?_cons_zero, Option.some.injEq] at hd
        subst hd
        exact .int _ _
      | succ k => simp at hd
  refine ⟨⟨m⟩, fun i cells hc => ?_, fun i o hc => by cases hc⟩
  have hc : globT m i = some cells := hc
  unfold globT at hc
  split at hc
  · cases hc; exact r0
  · cases hc; exact r1
  · cases hc; exact r3
  · cases hc

def simples : List TypeId := [3, 4, 9, 28, 22, 30, 23]
theorem simples_ok : simpleSet Tryz.prog simples = true := by kernel_rfl
theorem kids : Kids Tryz.prog (· < Tryz.prog.types.size) := kids_rows (by kernel_rfl) (by kernel_rfl)
theorem fulls : ∀ t e, t < Tryz.prog.types.size → Tryz.prog.underlying t = some (.slice e) → 0 < Tryz.prog.cellsOf e := slices_full_of _ (by kernel_rfl)

theorem has_int {n : Nat} {ds : List Dat} (h : hasT Tryz.prog n 3 ds) : ∃ x, ds = [.int .i64 x] ∧ -9223372036854775808 ≤ x ∧ x ≤ 9223372036854775807 := by
  cases n with
  | zero => exact h.elim
  | succ n =>
    unfold hasT at h
    rw [Tryz.underlying3] at h
    obtain ⟨x, rfl, hw⟩ := h
    exact ⟨x, rfl, bounds_i64 hw⟩
theorem has_bool {n : Nat} {ds : List Dat} (h : hasT Tryz.prog n 4 ds) : ∃ b, ds = [.bool b] := by
  cases n with
  | zero => exact h.elim
  | succ n =>
    unfold hasT at h
    rw [Tryz.underlying4] at h
    exact h
theorem has_string {n : Nat} {ds : List Dat} (h : hasT Tryz.prog n 9 ds) : ∃ s, ds = [.str s] ∧ s.size ≤ maxLen := by
  cases n with
  | zero => exact h.elim
  | succ n =>
    unfold hasT at h
    rw [Tryz.underlying9] at h
    exact h
theorem has_fo : ∀ {es : List (List Dat)}, (∀ c ∈ es, ∃ h ks, c = encE h ks) → ∃ F : Fo, es = F.enc
  | [], _ => ⟨.nil, rfl⟩
  | e :: es, h => by
    obtain ⟨x, ks, rfl⟩ := h e (by simp)
    obtain ⟨r, rfl⟩ := has_fo (es := es) fun c hc => h c (List.mem_cons_of_mem _ hc)
    exact ⟨.cons x ks r, rfl⟩
theorem has_Value {n : Nat} {ds : List Dat} (h : hasT Tryz.prog n 28 ds) : ∃ x y s, ds = [.int .i64 x, .int .i64 y, .str s] := by
  cases n with
  | zero => exact h.elim
  | succ n =>
    unfold hasT at h
    rw [Tryz.underlying28] at h
    obtain ⟨a, b, rfl, h1, a2, b2, rfl, h2, a3, b3, rfl, h3, rfl⟩ := h
    obtain ⟨x, rfl, _⟩ := has_int h1
    obtain ⟨y, rfl, hy⟩ := has_int h2
    obtain ⟨s, rfl, _⟩ := has_string h3
    exact ⟨x, y, s, rfl⟩
theorem has_expr : ∀ {n : Nat} {ds : List Dat}, hasT Tryz.prog n 30 ds → ∃ h ks, ds = encE h ks := by
  intro n
  induction n using Nat.strongRecOn with
  | ind n ih =>
    intro ds h
    cases n with
    | zero => exact h.elim
    | succ n =>
      unfold hasT at h
      rw [Tryz.underlying30] at h
      obtain ⟨a, b, rfl, h1, a2, b2, rfl, h2, a3, b3, rfl, h3, a4, b4, rfl, h4, a5, b5, rfl, h5, a6, b6, rfl, h6, rfl⟩ := h
      obtain ⟨k, rfl, _⟩ := has_int h1
      obtain ⟨m, rfl, _⟩ := has_int h2
      obtain ⟨vk, vn, vs, rfl⟩ := has_Value h3
      obtain ⟨tab, rfl, _⟩ := has_string h4
      obtain ⟨col, rfl, _⟩ := has_string h5
      cases n with
      | zero => exact h6.elim
      | succ n =>
        change hasT Tryz.prog (n + 1) 22 a6 at h6
        unfold hasT at h6
        rw [Tryz.underlying22] at h6
        obtain ⟨es, rfl, _, he⟩ := h6
        obtain ⟨F, rfl⟩ := has_fo fun c hc => ih n (by omega) (he c hc)
        obtain ⟨vs, rfl⟩ := exists_mk vs
        obtain ⟨tab, rfl⟩ := exists_mk tab
        obtain ⟨col, rfl⟩ := exists_mk col
        exact ⟨⟨k, m, vk, vn, vs, tab, col⟩, F, rfl⟩

theorem has_row {n : Nat} {ds : List Dat} (h : hasT Tryz.prog n 23 ds) : ∃ l : List Vl, ds = [.sl (l.map Vl.enc)] ∧ l.length ≤ 9223372036854775807 := by
  cases n with
  | zero => exact h.elim
  | succ n =>
    unfold hasT at h
    rw [Tryz.underlying23] at h
    obtain ⟨es, rfl, hle, h⟩ := h
    have hall : ∀ {es : List (List Dat)}, (∀ c ∈ es, ∃ v : Vl, c = v.enc) → ∃ l : List Vl, es = l.map Vl.enc := by
      intro es
      induction es with
      | nil => exact fun _ => ⟨[], rfl⟩
      | cons e es ih =>
        intro h
        obtain ⟨v, rfl⟩ := h e (List.mem_cons_self ..)
        obtain ⟨l, rfl⟩ := ih fun c hc => h c (List.mem_cons_of_mem _ hc)
        exact ⟨v :: l, rfl⟩
    obtain ⟨l, rfl⟩ := hall fun c hc => by
      obtain ⟨x, y, s, rfl⟩ := has_Value (h c hc)
      exact ⟨⟨x, y, s⟩, rfl⟩
    rw [List.length_map] at hle
    exact ⟨l, rfl, hle⟩
theorem has_list {n : Nat} {ds : List Dat} (h : hasT Tryz.prog n 22 ds) : ∃ F : Fo, ds = [.sl F.enc] := by
  cases n with
  | zero => exact h.elim
  | succ n =>
    unfold hasT at h
    rw [Tryz.underlying22] at h
    obtain ⟨es, rfl, _, h⟩ := h
    obtain ⟨F, rfl⟩ := has_fo fun c hc => has_expr (h c hc)
    exact ⟨F, rfl⟩

/-- the cells that a table's data says -/
def flatV : Nat → DataW Unit → List Value
  | _, .lit (.int k n) => [.int k n]
  | _, .lit (.string l) => [.string ⟨l.toArray⟩]
  | n + 1, .agg l => l.flatMap (flatV n)
  | _, _ => []

noncomputable def laidHeap (h : Array Obj) : List (String × DataW Unit) → Array Obj
  | [] => h
  | (n, d) :: r => laidHeap (h.modify ((Tryz.prog.globalNamed n).getD 0) fun
      | .cells _ t frozen => .cells (flatV 5 d).toArray t frozen
      | o => o) r
noncomputable def laidWorld (os : Os) : World :=
  { World.holding Tryz.prog os ⟨#[], #[], []⟩ with heap := laidHeap (World.holding Tryz.prog os ⟨#[], #[], []⟩).heap Rows.calcAndsRow.laid }
end Go.Proofs.YtebfhpjnbmdcoaaGreatDoor

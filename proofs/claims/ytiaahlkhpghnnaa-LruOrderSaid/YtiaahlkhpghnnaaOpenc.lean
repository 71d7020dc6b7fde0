/- What an argument hands over that is a cache: a number and a slice of items. -/
import Derived.Test.YtiaahlkhpghnnaaLa
import Derived.Test.YtiaahlkhpghnnaaOpenS
import Derived.Lib.SmallJoins
namespace Go.Proofs.Ytiaahlkhpghnnaa
open Go.RowKit Go.ChangeShapes Go.WideShapes Go.Deep Go.Joins

theorem its_of {vs : List Value} {n : Nat} (hl : vs.length = n * 3) (h : ∀ i, i < n → ∃ t : It, vs[i * 3]? = some (.int .i64 t.id) ∧ vs[i * 3 + 1]? = some (.int .i64 t.pins) ∧ vs[i * 3 + 2]? = some (.bool t.dirty)) : ∃ L, vs = its L := by
  haveI : Inhabited It := ⟨it0⟩
  obtain ⟨V, hV⟩ := choose_lt (n := n) (p := fun i (t : It) => vs[i * 3]? = some (.int .i64 t.id) ∧ vs[i * 3 + 1]? = some (.int .i64 t.pins) ∧ vs[i * 3 + 2]? = some (.bool t.dirty)) h
  refine ⟨(List.range n).map V, List.ext_getElem? fun k => ?_⟩
  have hLl : ((List.range n).map V).length = n := by simp
  by_cases hk : k < n * 3
  · have hi : k / 3 < n := by omega
    obtain ⟨g0, g1, g2⟩ := its_get ((List.range n).map V) (k / 3) (by rw [hLl]; exact hi)
    have hn : nthI ((List.range n).map V) (k / 3) = V (k / 3) := by simp [nthI, List.getD, hi]
    rw [hn] at g0 g1 g2
    obtain ⟨e0, e1, e2⟩ := hV (k / 3) hi
    have hm : k = k / 3 * 3 ∨ k = k / 3 * 3 + 1 ∨ k = k / 3 * 3 + 2 := by omega
    rcases hm with e | e | e
    · rw [e, e0, g0]
    · rw [e, e1, g1]
    · rw [e, e2, g2]
  · rw [List.getElem?_eq_none (by omega), List.getElem?_eq_none (by rw [its_length, hLl]; omega)]
section
variable {H : Type} {enc : TypeId × Value → H} {P : Program} {w : World} {base : Nat} {held : Bool}
theorem open_its {t e : TypeId} {f0 f1 f2 : Field} {A : Option Addr} {n c fuel : Nat} {x : DataW H × List MemPlace} (ht : P.underlying t = some (.slice e)) (he : P.underlying e = some (.struct #[f0, f1, f2])) (hone : oneCellFields P #[f0, f1, f2] = true) (hC : P.cellsOf e = 3)
    (h0 : P.underlying f0.type = some (.int .i64)) (h1 : P.underlying f1.type = some (.int .i64)) (h2 : P.underlying f2.type = some .bool)
    (h : DataW.trod enc P w base (fun _ => true) held fuel t [.slice A n c] = some x) : ∃ L, Rit w A n L ∧ n ≤ c ∧ c ≤ maxLen := by
  obtain ⟨vs, hr, k1, k2, hv⟩ := open_rows ht he hone hC (m := 3) rfl (by omega) h
  have hl : vs.length = n * 3 := hr.1
  obtain ⟨L, rfl⟩ := its_of hl fun i hi => by
    obtain ⟨v0, y0, N0, a0, b0⟩ := hv (i * 3) f0 (by omega) (by rw [show i * 3 % 3 = 0 by omega]; rfl)
    obtain ⟨v1, y1, N1, a1, b1⟩ := hv (i * 3 + 1) f1 (by omega) (by rw [show (i * 3 + 1) % 3 = 1 by omega]; rfl)
    obtain ⟨v2, y2, N2, a2, b2⟩ := hv (i * 3 + 2) f2 (by omega) (by rw [show (i * 3 + 2) % 3 = 2 by omega]; rfl)
    obtain ⟨z0, e0, _, _⟩ := DataW.trod_int h0 b0
    obtain ⟨z1, e1, _, _⟩ := DataW.trod_int h1 b1
    obtain ⟨z2, e2, _⟩ := DataW.trod_bool h2 b2
    simp at e0 e1 e2
    subst e0; subst e1; subst e2
    exact ⟨⟨z0, z1, z2⟩, a0, a1, a2⟩
  exact ⟨L, hr, k1, k2⟩
theorem open_cache {r : Reach} {b0 : Nat} {t e : TypeId} {g0 g1 f0 f1 f2 : Field} {v : Value} {d : DataW H} {p : List MemPlace} (hs : P.underlying t = some (.struct #[g0, g1])) (hone' : oneCellFields P #[g0, g1] = true) (hC' : P.cellsOf t = 2)
    (hg0 : P.underlying g0.type = some (.int .i64)) (hg1 : P.underlying g1.type = some (.slice e)) (he : P.underlying e = some (.struct #[f0, f1, f2])) (hone : oneCellFields P #[f0, f1, f2] = true) (hC : P.cellsOf e = 3)
    (h0 : P.underlying f0.type = some (.int .i64)) (h1 : P.underlying f1.type = some (.int .i64)) (h2 : P.underlying f2.type = some .bool)
    (hv : Value.okWide P w r b0 t v) (h : DataW.Trod enc P w base (fun _ => true) held t v d p) : ∃ room A n c L, v = .agg #[.int .i64 room, .slice A n c] ∧ (-9223372036854775808 ≤ room ∧ room ≤ 9223372036854775807) ∧ Rit w A n L ∧ n ≤ c ∧ c ≤ maxLen := by
  obtain ⟨v0, v1, y0, y1, N, rfl, _, _, k0, k1⟩ := open_agg2 hs hone' hC' hv h
  obtain ⟨z0, e0, _, w0⟩ := DataW.trod_int hg0 k0
  simp at e0
  subst e0
  have hsl : ∃ A n c, v1 = .slice A n c := by
    rcases open_slice hg1 k1 with ⟨hcs, _⟩ | ⟨a, len, cap, mm, n', D, Pl, hcs, _⟩
    · simp at hcs; exact ⟨_, _, _, hcs⟩
    · simp at hcs; exact ⟨_, _, _, hcs⟩
  obtain ⟨A, n, c, rfl⟩ := hsl
  obtain ⟨L, hr, q1, q2⟩ := open_its hg1 he hone hC h0 h1 h2 k1
  exact ⟨z0, A, n, c, L, rfl, bounds_i64 w0, hr, q1, q2⟩
end
end Go.Proofs.Ytiaahlkhpghnnaa

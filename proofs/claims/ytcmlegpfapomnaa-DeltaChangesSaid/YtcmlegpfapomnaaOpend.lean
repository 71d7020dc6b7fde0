/- What an argument hands over that is a slice of pairs, or of changes. -/
import Derived.Test.YtcmlegpfapomnaaDa
import Derived.Test.YtcmlegpfapomnaaOpenS
namespace Go.Proofs.Ytcmlegpfapomnaa
open Go.RowKit Go.ChangeShapes Go.WideShapes Go.Deep

theorem prs_of {vs : List Value} {n : Nat} (hl : vs.length = n * 2) (h : ∀ i, i < n → ∃ t : Pr, vs[i * 2]? = some (.string ⟨t.k.toArray⟩) ∧ vs[i * 2 + 1]? = some (.string ⟨t.v.toArray⟩)) : ∃ L, vs = prs L := by
  haveI : Inhabited Pr := ⟨pr0⟩
  obtain ⟨V, hV⟩ := choose_lt (n := n) (p := fun i (t : Pr) => vs[i * 2]? = some (.string ⟨t.k.toArray⟩) ∧ vs[i * 2 + 1]? = some (.string ⟨t.v.toArray⟩)) h
  refine ⟨(List.range n).map V, List.ext_getElem? fun k => ?_⟩
  have hLl : ((List.range n).map V).length = n := by simp
  by_cases hk : k < n * 2
  · have hi : k / 2 < n := by omega
    obtain ⟨g0, g1⟩ := prs_get ((List.range n).map V) (k / 2) (by rw [hLl]; exact hi)
    have hn : nthP ((List.range n).map V) (k / 2) = V (k / 2) := by simp [nthP, List.getD, hi]
    rw [hn] at g0 g1
    obtain ⟨e0, e1⟩ := hV (k / 2) hi
    have hm : k = k / 2 * 2 ∨ k = k / 2 * 2 + 1 := by omega
    rcases hm with e | e
    · rw [e, e0, g0]
    · rw [e, e1, g1]
  · rw [List.getElem?_eq_none (by omega), List.getElem?_eq_none (by rw [prs_length, hLl]; omega)]
theorem chs_of {vs : List Value} {n : Nat} (hl : vs.length = n * 5) (h : ∀ i, i < n → ∃ t : Ch, vs[i * 5]? = some (.string ⟨t.k.toArray⟩) ∧ vs[i * 5 + 1]? = some (.string ⟨t.was.toArray⟩) ∧ vs[i * 5 + 2]? = some (.string ⟨t.now.toArray⟩) ∧ vs[i * 5 + 3]? = some (.bool t.had) ∧ vs[i * 5 + 4]? = some (.bool t.has)) : ∃ L, vs = chs L := by
  haveI : Inhabited Ch := ⟨ch0⟩
  obtain ⟨V, hV⟩ := choose_lt (n := n) (p := fun i (t : Ch) => vs[i * 5]? = some (.string ⟨t.k.toArray⟩) ∧ vs[i * 5 + 1]? = some (.string ⟨t.was.toArray⟩) ∧ vs[i * 5 + 2]? = some (.string ⟨t.now.toArray⟩) ∧ vs[i * 5 + 3]? = some (.bool t.had) ∧ vs[i * 5 + 4]? = some (.bool t.has)) h
  refine ⟨(List.range n).map V, List.ext_getElem? fun k => ?_⟩
  have hLl : ((List.range n).map V).length = n := by simp
  by_cases hk : k < n * 5
  · have hi : k / 5 < n := by omega
    obtain ⟨g0, g1, g2, g3, g4⟩ := chs_get ((List.range n).map V) (k / 5) (by rw [hLl]; exact hi)
    have hn : nthC ((List.range n).map V) (k / 5) = V (k / 5) := by simp [nthC, List.getD, hi]
    rw [hn] at g0 g1 g2 g3 g4
    obtain ⟨e0, e1, e2, e3, e4⟩ := hV (k / 5) hi
    have hm : k = k / 5 * 5 ∨ k = k / 5 * 5 + 1 ∨ k = k / 5 * 5 + 2 ∨ k = k / 5 * 5 + 3 ∨ k = k / 5 * 5 + 4 := by omega
    rcases hm with e | e | e | e | e
    · rw [e, e0, g0]
    · rw [e, e1, g1]
    · rw [e, e2, g2]
    · rw [e, e3, g3]
    · rw [e, e4, g4]
  · rw [List.getElem?_eq_none (by omega), List.getElem?_eq_none (by rw [chs_length, hLl]; omega)]
section
variable {H : Type} {enc : TypeId × Value → H} {P : Program} {w : World} {base : Nat} {held : Bool}
theorem open_prs {t e : TypeId} {f0 f1 : Field} {A : Option Addr} {n c fuel : Nat} {x : DataW H × List MemPlace} (ht : P.underlying t = some (.slice e)) (he : P.underlying e = some (.struct #[f0, f1])) (hone : oneCellFields P #[f0, f1] = true) (hC : P.cellsOf e = 2)
    (h0 : P.underlying f0.type = some .string) (h1 : P.underlying f1.type = some .string)
    (h : DataW.trod enc P w base (fun _ => true) held fuel t [.slice A n c] = some x) : ∃ L, Rp w A n L ∧ n ≤ c ∧ c ≤ maxLen := by
  obtain ⟨vs, hr, k1, k2, hv⟩ := open_rows ht he hone hC (m := 2) rfl (by omega) h
  have hl : vs.length = n * 2 := hr.1
  obtain ⟨L, rfl⟩ := prs_of hl fun i hi => by
    obtain ⟨v0, y0, N0, a0, b0⟩ := hv (i * 2) f0 (by omega) (by rw [show i * 2 % 2 = 0 by omega]; rfl)
    obtain ⟨v1, y1, N1, a1, b1⟩ := hv (i * 2 + 1) f1 (by omega) (by rw [show (i * 2 + 1) % 2 = 1 by omega]; rfl)
    obtain ⟨z0, e0, _⟩ := DataW.trod_string h0 b0
    obtain ⟨z1, e1, _⟩ := DataW.trod_string h1 b1
    simp at e0 e1
    subst e0; subst e1
    exact ⟨⟨z0.data.toList, z1.data.toList⟩, by simpa using a0, by simpa using a1⟩
  exact ⟨L, hr, k1, k2⟩
theorem open_chs {t e : TypeId} {f0 f1 f2 f3 f4 : Field} {A : Option Addr} {n c fuel : Nat} {x : DataW H × List MemPlace} (ht : P.underlying t = some (.slice e)) (he : P.underlying e = some (.struct #[f0, f1, f2, f3, f4])) (hone : oneCellFields P #[f0, f1, f2, f3, f4] = true) (hC : P.cellsOf e = 5)
    (h0 : P.underlying f0.type = some .string) (h1 : P.underlying f1.type = some .string) (h2 : P.underlying f2.type = some .string) (h3 : P.underlying f3.type = some .bool) (h4 : P.underlying f4.type = some .bool)
    (h : DataW.trod enc P w base (fun _ => true) held fuel t [.slice A n c] = some x) : ∃ L, Rch w A n L ∧ n ≤ c ∧ c ≤ maxLen := by
  obtain ⟨vs, hr, k1, k2, hv⟩ := open_rows ht he hone hC (m := 5) rfl (by omega) h
  have hl : vs.length = n * 5 := hr.1
  obtain ⟨L, rfl⟩ := chs_of hl fun i hi => by
    obtain ⟨v0, y0, N0, a0, b0⟩ := hv (i * 5) f0 (by omega) (by rw [show i * 5 % 5 = 0 by omega]; rfl)
    obtain ⟨v1, y1, N1, a1, b1⟩ := hv (i * 5 + 1) f1 (by omega) (by rw [show (i * 5 + 1) % 5 = 1 by omega]; rfl)
    obtain ⟨v2, y2, N2, a2, b2⟩ := hv (i * 5 + 2) f2 (by omega) (by rw [show (i * 5 + 2) % 5 = 2 by omega]; rfl)
    obtain ⟨v3, y3, N3, a3, b3⟩ := hv (i * 5 + 3) f3 (by omega) (by rw [show (i * 5 + 3) % 5 = 3 by omega]; rfl)
    obtain ⟨v4, y4, N4, a4, b4⟩ := hv (i * 5 + 4) f4 (by omega) (by rw [show (i * 5 + 4) % 5 = 4 by omega]; rfl)
    obtain ⟨z0, e0, _⟩ := DataW.trod_string h0 b0
    obtain ⟨z1, e1, _⟩ := DataW.trod_string h1 b1
    obtain ⟨z2, e2, _⟩ := DataW.trod_string h2 b2
    obtain ⟨z3, e3, _⟩ := DataW.trod_bool h3 b3
    obtain ⟨z4, e4, _⟩ := DataW.trod_bool h4 b4
    simp at e0 e1 e2 e3 e4
    subst e0; subst e1; subst e2; subst e3; subst e4
    exact ⟨⟨z0.data.toList, z1.data.toList, z2.data.toList, z3, z4⟩, by simpa using a0, by simpa using a1, by simpa using a2, a3, a4⟩
  exact ⟨L, hr, k1, k2⟩
end
end Go.Proofs.Ytcmlegpfapomnaa

/- What arguments hand over that are slices of bytes, slices of these, or arrays by value. No function of the program is named. -/
import Derived.Test.YtcmlegpfapomnaaNest
import Derived.Deep.Matrix
import Derived.OpenShut
namespace Go.Proofs.Ytcmlegpfapomnaa
open Go.RowKit Go.ChangeShapes Go.WideShapes Go.Deep

section
variable {H : Type} {enc : TypeId × Value → H} {P : Program} {w : World} {base : Nat} {held : Bool}

theorem open_rb {t e : TypeId} {A : Option Addr} {n c fuel : Nat} {x : DataW H × List MemPlace} (ht : P.underlying t = some (.slice e)) (he : P.underlying e = some (.int .u8)) (hc : P.cellsOf e = 1)
    (h : DataW.trod enc P w base (fun _ => true) held fuel t [.slice A n c] = some x) : ∃ l, Rb w A n l ∧ n ≤ c ∧ c ≤ maxLen := by
  rcases open_ints ht he hc h with ⟨hcs, _⟩ | ⟨a, len, cap, zs, hcs, _, hl, hm, hz, _, hcell, hw⟩
  · simp only [List.cons.injEq, Value.slice.injEq, and_true] at hcs
    obtain ⟨rfl, rfl, rfl⟩ := hcs
    exact ⟨[], Rb.none_ _ _, Nat.le_refl _, Nat.zero_le _⟩
  · simp only [List.cons.injEq, Value.slice.injEq, and_true] at hcs
    obtain ⟨rfl, rfl, rfl⟩ := hcs
    simp only [if_true] at hz
    obtain ⟨l, h⟩ := rb_of_cells hl hz hcell (fun n hn => by have := bounds_u8 (hw n hn); omega)
    exact ⟨l, h, hl, hm⟩
theorem open_bbs {t e q : TypeId} {A : Option Addr} {n c fuel : Nat} {x : DataW H × List MemPlace} (ht : P.underlying t = some (.slice e)) (he : P.underlying e = some (.slice q)) (hq : P.underlying q = some (.int .u8))
    (ce : P.cellsOf e = 1) (cq : P.cellsOf q = 1) (h : DataW.trod enc P w base (fun _ => true) held fuel t [.slice A n c] = some x) : ∃ L, Rbb w A n L ∧ n ≤ c ∧ c ≤ maxLen := by
  rcases open_int_rows ht he hq ce cq h with ⟨hcs, _⟩ | ⟨a, len, cap, As, Ls, Cs, Zs, hcs, _, hl, hm, _, hx⟩
  · simp only [List.cons.injEq, Value.slice.injEq, and_true] at hcs
    obtain ⟨rfl, rfl, rfl⟩ := hcs
    exact ⟨[], ⟨rfl, [], Rd.none_ _ _ _, fun i l h => by simp at h⟩, Nat.le_refl _, Nat.zero_le _⟩
  · simp only [List.cons.injEq, Value.slice.injEq, and_true] at hcs
    obtain ⟨rfl, rfl, rfl⟩ := hcs
    have each : ∀ r, r < n → ∃ l, Rb w (As r) (Ls r) l := fun r hr => by
      obtain ⟨_, h1, _, h3, h4, h5, h6⟩ := hx r (by omega)
      cases hA : As r with
      | none =>
        have := h5 hA
        have h0 : Ls r = 0 := by omega
        rw [h0]
        exact ⟨[], Rb.none_ _ _⟩
      | some a' => exact rb_of_cells h1 h3 (fun i hi => (h6 a' hA).2 i (by omega)) (fun z hz => by have := bounds_u8 (h4 z hz); omega)
    obtain ⟨l, hlr⟩ := choose_lt each
    refine ⟨(List.range n).map l, ⟨by simp, (List.range n).map fun r => Value.slice (As r) (Ls r) (Cs r), ⟨by simp, fun hp => ?_⟩, fun i y hi => ?_⟩, hl, hm⟩
    · have hn : 0 < n := by simpa using hp
      obtain ⟨b, o, s⟩ := a
      obtain rfl : s = none := by simpa [Addr.add] using World.cell?_spot (hx 0 (by omega)).1
      refine ⟨b, o, rfl, fun j u hu => ?_⟩
      have hj : j < n := by have := (List.getElem?_eq_some_iff.1 hu).1; simpa using this
      simp [hj] at hu
      subst hu
      rw [← add_plain]
      exact (hx j (by omega)).1
    · have hj : i < n := by have := (List.getElem?_eq_some_iff.1 hi).1; simpa using this
      simp [hj] at hi
      subst hi
      obtain ⟨_, h1, h2, _⟩ := hx i (by omega)
      exact ⟨As i, Ls i, Cs i, by simp [hj], hlr i hj, h1, h2⟩

theorem okWide_array {r : Reach} {b0 : Nat} {t e : TypeId} {n : Nat} {v : Value} (ht : P.underlying t = some (.array n e)) (h : Value.okWide P w r b0 t v) : ∃ cs, v = .agg cs ∧ cs.size = P.cellsOf t := by
  simp only [Value.okWide, ht] at h
  obtain ⟨cs, h1, h2, _⟩ := h
  exact ⟨cs, h1, h2⟩
theorem open_arr {sp : Nat → Bool} {r : Reach} {b0 : Nat} {t e : TypeId} {n N : Nat} {v : Value} {d : DataW H} {p : List MemPlace} (ht : P.underlying t = some (.array n e)) (hN : P.cellsOf t = N) (hv : Value.okWide P w r b0 t v)
    (h : DataW.Trod enc P w base sp held t v d p) : ∃ (cs : List Value) (m : Nat) (xs : List (DataW H × List MemPlace)), v = .agg cs.toArray ∧ cs.length = N ∧ xs.length = n ∧
      ∀ i, i < n → DataW.trod enc P w base sp held m e ((cs.drop (i * P.cellsOf e)).take (P.cellsOf e)) = xs[i]? := by
  obtain ⟨cs, rfl, hs⟩ := okWide_array ht hv
  obtain ⟨fuel, hf⟩ := h
  obtain ⟨xs, m, _, _, _, hl, hx⟩ := DataW.trod_array ht hf
  obtain ⟨l⟩ := cs
  exact ⟨l, m, xs, rfl, by simpa [hN] using hs, hl, hx⟩
theorem some_of_lt {α : Type} {xs : List α} {i n : Nat} (hl : xs.length = n) (h : i < n) : ∃ y, xs[i]? = some y := ⟨xs[i]'(by omega), List.getElem?_eq_getElem (by omega)⟩
theorem open_arr2_int {sp : Nat → Bool} {r : Reach} {b0 : Nat} {t e : TypeId} {k : IntKind} {v : Value} {d : DataW H} {p : List MemPlace} (ht : P.underlying t = some (.array 2 e)) (he : P.underlying e = some (.int k)) (ct : P.cellsOf t = 2) (ce : P.cellsOf e = 1)
    (hv : Value.okWide P w r b0 t v) (h : DataW.Trod enc P w base sp held t v d p) : ∃ a b : Int, v = .agg #[.int k a, .int k b] ∧ (Lit.int k a).wf = true ∧ (Lit.int k b).wf = true := by
  obtain ⟨cs, m, xs, rfl, hl, hn, hx⟩ := open_arr ht ct hv h
  match cs, hl with
  | [c0, c1], _ =>
    obtain ⟨y0, e0⟩ := some_of_lt hn (i := 0) (by omega)
    obtain ⟨y1, e1⟩ := some_of_lt hn (i := 1) (by omega)
    have h0 := hx 0 (by omega)
    have h1 := hx 1 (by omega)
    rw [e0, ce] at h0
    rw [e1, ce] at h1
    obtain ⟨z0, f0, _, g0⟩ := DataW.trod_int he h0
    obtain ⟨z1, f1, _, g1⟩ := DataW.trod_int he h1
    simp at f0 f1
    subst f0; subst f1
    exact ⟨z0, z1, rfl, g0, g1⟩
theorem open_arr2_rb {r : Reach} {b0 : Nat} {t e q : TypeId} {v : Value} {d : DataW H} {p : List MemPlace} (ht : P.underlying t = some (.array 2 e)) (he : P.underlying e = some (.slice q)) (hq : P.underlying q = some (.int .u8)) (ct : P.cellsOf t = 2) (ce : P.cellsOf e = 1) (cq : P.cellsOf q = 1)
    (hv : Value.okWide P w r b0 t v) (h : DataW.Trod enc P w base (fun _ => true) held t v d p) : ∃ A0 n0 c0 l0 A1 n1 c1 l1, v = .agg #[.slice A0 n0 c0, .slice A1 n1 c1] ∧ (Rb w A0 n0 l0 ∧ n0 ≤ c0 ∧ c0 ≤ maxLen) ∧ (Rb w A1 n1 l1 ∧ n1 ≤ c1 ∧ c1 ≤ maxLen) := by
  obtain ⟨cs, m, xs, rfl, hl, hn, hx⟩ := open_arr ht ct hv h
  match cs, hl with
  | [c0, c1], _ =>
    obtain ⟨y0, e0⟩ := some_of_lt hn (i := 0) (by omega)
    obtain ⟨y1, e1⟩ := some_of_lt hn (i := 1) (by omega)
    have h0 := hx 0 (by omega)
    have h1 := hx 1 (by omega)
    rw [e0, ce] at h0
    rw [e1, ce] at h1
    have each : ∀ {u : Value} {y : DataW H × List MemPlace}, DataW.trod enc P w base (fun _ => true) held m e [u] = some y → ∃ A n c l, u = .slice A n c ∧ Rb w A n l ∧ n ≤ c ∧ c ≤ maxLen := fun {u y} hu => by
      rcases open_ints he hq cq hu with ⟨hcs, _⟩ | ⟨a, len, cap, zs, hcs, _⟩
      · simp at hcs
        subst hcs
        obtain ⟨l, hr⟩ := open_rb he hq cq hu
        exact ⟨_, _, _, l, rfl, hr⟩
      · simp at hcs
        subst hcs
        obtain ⟨l, hr⟩ := open_rb he hq cq hu
        exact ⟨_, _, _, l, rfl, hr⟩
    obtain ⟨A0, n0, c0', l0, f0, g0⟩ := each h0
    obtain ⟨A1, n1, c1', l1, f1, g1⟩ := each h1
    subst f0; subst f1
    exact ⟨A0, n0, c0', l0, A1, n1, c1', l1, rfl, g0, g1⟩
/-- Four pairs of small numbers. -/
theorem open_arr4_pairs {sp : Nat → Bool} {r : Reach} {b0 : Nat} {t e : TypeId} {f g : Field} {v : Value} {d : DataW H} {p : List MemPlace} (ht : P.underlying t = some (.array 4 e)) (he : P.underlying e = some (.struct #[f, g]))
    (hf : P.underlying f.type = some (.int .u8)) (hg : P.underlying g.type = some (.int .u8)) (of : f.offset = 0) (og : g.offset = 1) (cf : P.cellsOf f.type = 1) (cg : P.cellsOf g.type = 1) (ct : P.cellsOf t = 8) (ce : P.cellsOf e = 2)
    (hv : Value.okWide P w r b0 t v) (h : DataW.Trod enc P w base sp held t v d p) : ∃ F : List UInt8, v = .agg (by8 F).toArray ∧ F.length = 8 := by
  obtain ⟨cs, m, xs, rfl, hl, hn, hx⟩ := open_arr ht ct hv h
  have each : ∀ {u v : Value} {y : DataW H × List MemPlace}, DataW.trod enc P w base sp held m e [u, v] = some y → ∃ a b : UInt8, u = .int .u8 (a.toNat : Int) ∧ v = .int .u8 (b.toNat : Int) := fun {u v y} hu => by
    obtain ⟨y0, y1, n, _, _, h0, h1⟩ := trod_struct2 he hu
    rw [of, cf] at h0
    rw [og, cg] at h1
    obtain ⟨z0, f0, _, g0⟩ := DataW.trod_int hf h0
    obtain ⟨z1, f1, _, g1⟩ := DataW.trod_int hg h1
    simp at f0 f1
    have b0 := bounds_u8 g0
    have b1 := bounds_u8 g1
    exact ⟨UInt8.ofNat z0.toNat, UInt8.ofNat z1.toNat, by rw [f0]; simp; omega, by rw [f1]; simp; omega⟩
  match cs, hl with
  | [c0, c1, c2, c3, c4, c5, c6, c7], _ =>
    obtain ⟨y0, e0⟩ := some_of_lt hn (i := 0) (by omega)
    obtain ⟨y1, e1⟩ := some_of_lt hn (i := 1) (by omega)
    obtain ⟨y2, e2⟩ := some_of_lt hn (i := 2) (by omega)
    obtain ⟨y3, e3⟩ := some_of_lt hn (i := 3) (by omega)
    have h0 := hx 0 (by omega)
    have h1 := hx 1 (by omega)
    have h2 := hx 2 (by omega)
    have h3 := hx 3 (by omega)
    rw [e0, ce] at h0
    rw [e1, ce] at h1
    rw [e2, ce] at h2
    rw [e3, ce] at h3
    obtain ⟨a0, a1, rfl, rfl⟩ := each h0
    obtain ⟨a2, a3, rfl, rfl⟩ := each h1
    obtain ⟨a4, a5, rfl, rfl⟩ := each h2
    obtain ⟨a6, a7, rfl, rfl⟩ := each h3
    exact ⟨[a0, a1, a2, a3, a4, a5, a6, a7], rfl, rfl⟩
end
end Go.Proofs.Ytcmlegpfapomnaa

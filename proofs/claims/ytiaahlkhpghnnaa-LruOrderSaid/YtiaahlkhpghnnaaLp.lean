/- The law LruOrder of all its arguments, and what an argument of type []Act hands over. -/
import Derived.Test.YtiaahlkhpghnnaaLo
import Derived.Test.YtiaahlkhpghnnaaOpenc
namespace Go.Proofs.Ytiaahlkhpghnnaa
open Go.RowKit Go.ChangeShapes Go.WideShapes Go.Deep Go.Joins

theorem acs_of {vs : List Value} {n : Nat} (hl : vs.length = n * 4) (h : ∀ i, i < n → ∃ t : Ac, vs[i * 4]? = some (.int .u8 (t.kind.toNat : Int)) ∧ vs[i * 4 + 1]? = some (.int .i64 t.id) ∧ vs[i * 4 + 2]? = some (.int .i64 t.tow) ∧ vs[i * 4 + 3]? = some (.bool t.dirty)) : ∃ L, vs = acs L := by
  haveI : Inhabited Ac := ⟨a0⟩
  obtain ⟨V, hV⟩ := choose_lt (n := n) (p := fun i (t : Ac) => vs[i * 4]? = some (.int .u8 (t.kind.toNat : Int)) ∧ vs[i * 4 + 1]? = some (.int .i64 t.id) ∧ vs[i * 4 + 2]? = some (.int .i64 t.tow) ∧ vs[i * 4 + 3]? = some (.bool t.dirty)) h
  refine ⟨(List.range n).map V, List.ext_getElem? fun k => ?_⟩
  have hLl : ((List.range n).map V).length = n := by simp
  by_cases hk : k < n * 4
  · have hi : k / 4 < n := by omega
    obtain ⟨g0, g1, g2, g3⟩ := acs_get ((List.range n).map V) (k / 4) (by rw [hLl]; exact hi)
    have hn : nthA ((List.range n).map V) (k / 4) = V (k / 4) := by simp [nthA, List.getD, hi]
    rw [hn] at g0 g1 g2 g3
    obtain ⟨e0, e1, e2, e3⟩ := hV (k / 4) hi
    have hm : k = k / 4 * 4 ∨ k = k / 4 * 4 + 1 ∨ k = k / 4 * 4 + 2 ∨ k = k / 4 * 4 + 3 := by omega
    rcases hm with e | e | e | e
    · rw [e, e0, g0]
    · rw [e, e1, g1]
    · rw [e, e2, g2]
    · rw [e, e3, g3]
  · rw [List.getElem?_eq_none (by omega), List.getElem?_eq_none (by rw [acs_length, hLl]; omega)]
theorem open_acts {H : Type} {enc : TypeId × Value → H} {P : Program} {w : World} {base : Nat} {held : Bool} {t e : TypeId} {f0 f1 f2 f3 : Field} {A : Option Addr} {n c fuel : Nat} {x : DataW H × List MemPlace} (ht : P.underlying t = some (.slice e)) (he : P.underlying e = some (.struct #[f0, f1, f2, f3]))
    (hone : oneCellFields P #[f0, f1, f2, f3] = true) (hC : P.cellsOf e = 4) (h0 : P.underlying f0.type = some (.int .u8)) (h1 : P.underlying f1.type = some (.int .i64)) (h2 : P.underlying f2.type = some (.int .i64)) (h3 : P.underlying f3.type = some .bool)
    (h : DataW.trod enc P w base (fun _ => true) held fuel t [.slice A n c] = some x) : ∃ L, Rac w A n L ∧ n ≤ c ∧ c ≤ maxLen := by
  obtain ⟨vs, hr, k1, k2, hv⟩ := open_rows ht he hone hC (m := 4) rfl (by omega) h
  have hl : vs.length = n * 4 := hr.1
  obtain ⟨L, rfl⟩ := acs_of hl fun i hi => by
    obtain ⟨v0, y0, N0, q0, b0⟩ := hv (i * 4) f0 (by omega) (by rw [show i * 4 % 4 = 0 by omega]; rfl)
    obtain ⟨v1, y1, N1, q1, b1⟩ := hv (i * 4 + 1) f1 (by omega) (by rw [show (i * 4 + 1) % 4 = 1 by omega]; rfl)
    obtain ⟨v2, y2, N2, q2, b2⟩ := hv (i * 4 + 2) f2 (by omega) (by rw [show (i * 4 + 2) % 4 = 2 by omega]; rfl)
    obtain ⟨v3, y3, N3, q3, b3⟩ := hv (i * 4 + 3) f3 (by omega) (by rw [show (i * 4 + 3) % 4 = 3 by omega]; rfl)
    obtain ⟨z0, e0, _, w0⟩ := DataW.trod_int h0 b0
    obtain ⟨z1, e1, _, _⟩ := DataW.trod_int h1 b1
    obtain ⟨z2, e2, _, _⟩ := DataW.trod_int h2 b2
    obtain ⟨z3, e3, _⟩ := DataW.trod_bool h3 b3
    have hb := bounds_u8 w0
    simp at e0 e1 e2 e3
    subst e0; subst e1; subst e2; subst e3
    refine ⟨⟨UInt8.ofNat z0.toNat, z1, z2, z3⟩, ?_, q1, q2, q3⟩
    rw [q0]
    congr 2
    simp
    omega
  exact ⟨L, hr, k1, k2⟩
set_option maxHeartbeats 4000000 in
theorem order_any (a : Int) (ha : 0 ≤ a ∧ a ≤ 255) (A : Option Addr) (n c : Nat) (L : List Ac) (w : World) (h : Rac w A n L) :
    Calls Try.prog 4 #[.int .u8 a, .slice A n c] w fun e w' => e = .returned (.bool true) ∧ Below w.heap.size w w' := by
  obtain ⟨room, hroom⟩ : ∃ r : UInt8, (r.toNat : Int) = a := ⟨UInt8.ofNat a.toNat, by simp; omega⟩
  subst hroom
  by_cases hn : 40 < n
  · have hrb := room.toNat_lt
    obtain ⟨rm, hrm⟩ : ∃ rm, (1 : Int) + (room.toNat : Int) = rm := ⟨_, rfl⟩
    obtain ⟨e1, _⟩ := new_room rm (by omega) (by omega)
    have NW := hide (new_any rm w)
    rw [e1] at NW
    have dn : decide (40 < (n : Int)) = true := by simp; omega
    have hw1 : IntKind.i64.wrap (1 + (room.toNat : Int)) = rm := by rw [IntKind.wrap_i64]; omega
    clear h e1 hrm
    go_enter Try.func4, Try.ntmps4
    go_wp2_with (first
      | (go_at_call 7
         refine NW.out.mono ?_
         rintro r wn ⟨rfl, hbn⟩)
      | (go_at_call 6
         refine (awake_any _).mono ?_
         rintro r w9 ⟨rfl, hb9⟩))
    go_ret
    exact ⟨rfl, Below.then_ (Below.al hbn _) hb9⟩
  · exact order_in room A n c L w (by omega) h
end Go.Proofs.Ytiaahlkhpghnnaa

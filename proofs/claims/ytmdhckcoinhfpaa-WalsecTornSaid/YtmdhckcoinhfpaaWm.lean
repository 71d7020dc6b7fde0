/- Rows of the call's own whose elements are rows of its own, of pages or of bytes. -/
import Derived.Test.YtmdhckcoinhfpaaTorn
namespace Go.Proofs.Ytmdhckcoinhfpaa
open Go.RowKit

/-- The call's own row of slices, each of the call's own: of bytes made, or of a page. -/
def Wbb (w : World) (base : Nat) (A : Option Addr) (c n : Nat) (L : List (List UInt8)) : Prop :=
  L.length = n ∧ ∃ vs : List Value, w.ownsRow base 34 1 (.slice A n c) n vs ∧ ∀ (i : Nat) (l : List UInt8), L[i]? = some l → ∃ Ai ni ci eB, (eB = 5 ∨ eB = 54) ∧ vs[i]? = some (Value.slice Ai ni ci) ∧ w.ownsRow base eB 1 (.slice Ai ni ci) ni (by8 l)
theorem tag_ne {eB : TypeId} (h : eB = 5 ∨ eB = 54) : eB ≠ 34 := by rcases h with rfl | rfl <;> decide
section
variable {w w' : World} {base : Nat} {A : Option Addr} {c n : Nat} {L : List (List UInt8)}
theorem Wbb.of_obb (h : Obb 34 54 w base A c n L) : Wbb w base A c n L := by
  obtain ⟨hl, vs, ho, hi⟩ := h
  exact ⟨hl, vs, ho, fun i l hl => by
    obtain ⟨Ai, ni, ci, h1, h2⟩ := hi i l hl
    exact ⟨Ai, ni, ci, 54, .inr rfl, h1, h2⟩⟩
theorem Wbb.below (h : Wbb w base A c n L) (hb : Below w.heap.size w w') : Wbb w' base A c n L := by
  obtain ⟨hl, vs, ho, hi⟩ := h
  exact ⟨hl, vs, own_below ho hb, fun i l hl => by
    obtain ⟨Ai, ni, ci, eB, h0, h1, h2⟩ := hi i l hl
    exact ⟨Ai, ni, ci, eB, h0, h1, own_below h2 hb⟩⟩
theorem Wbb.mono {base' : Nat} (h : Wbb w base' A c n L) (hb : base ≤ base') : Wbb w base A c n L := by
  obtain ⟨hl, vs, ho, hi⟩ := h
  exact ⟨hl, vs, own_mono ho hb, fun i l hl => by
    obtain ⟨Ai, ni, ci, eB, h0, h1, h2⟩ := hi i l hl
    exact ⟨Ai, ni, ci, eB, h0, h1, own_mono h2 hb⟩⟩
theorem Wbb.rbb (h : Wbb w base A c n L) : Rbb w A n L := by
  obtain ⟨hl, vs, ho, hi⟩ := h
  exact ⟨hl, vs, Rd.of_own ho, fun i l hl => by
    obtain ⟨Ai, ni, ci, eB, _, h1, h2⟩ := hi i l hl
    exact ⟨Ai, ni, ci, h1, Rb.of_own h2, (own_cap h2).1, (own_cap h2).2⟩⟩
/-- One more at the end. -/
theorem Wbb.push {vs : List Value} (hl : L.length = n) (ho : w.ownsRow base 34 1 (Value.slice A n c) n vs)
    (hi : ∀ (i : Nat) (l : List UInt8), L[i]? = some l → ∃ Ai ni ci eB, (eB = 5 ∨ eB = 54) ∧ vs[i]? = some (Value.slice Ai ni ci) ∧ w.ownsRow base eB 1 (.slice Ai ni ci) ni (by8 l))
    {eB : TypeId} (he : eB = 5 ∨ eB = 54) {Ab : Option Addr} {nb cb : Nat} {l : List UInt8} (hb : w.ownsRow base eB 1 (Value.slice Ab nb cb) nb (by8 l)) {A' : Option Addr} {c' : Nat}
    (ho' : w'.ownsRow base 34 1 (Value.slice A' (n + 1) c') (n + 1) (vs ++ [Value.slice Ab nb cb])) (hg : w.grownBy w' (Value.slice A n c).ownBlock) : Wbb w' base A' c' (n + 1) (L ++ [l]) := by
  have hvl : vs.length = n := by simpa using ho.1
  refine ⟨by simp [hl], _, ho', fun i x hx => ?_⟩
  by_cases hin : i < n
  · rw [List.getElem?_append_left (by omega)] at hx
    obtain ⟨Ai, ni, ci, e, h0, h1, h2⟩ := hi i x hx
    exact ⟨Ai, ni, ci, e, h0, by rw [List.getElem?_append_left (by omega)]; exact h1, h2.kept hg (own_ne h2 ho (tag_ne h0))⟩
  · have hi2 : i = n := by
      have := (List.getElem?_eq_some_iff.1 hx).1
      simp [hl] at this
      omega
    subst hi2
    rw [List.getElem?_append_right (by omega), hl, Nat.sub_self] at hx
    simp at hx
    subst hx
    exact ⟨Ab, nb, cb, eB, he, by rw [List.getElem?_append_right (by omega), hvl, Nat.sub_self]; rfl, hb.kept hg (own_ne hb ho (tag_ne he))⟩
/-- One laid in another's place. -/
theorem Wbb.set_ {g : Nat} (h : Wbb w base (some ⟨g, 0, none⟩) c n L) {eB : TypeId} (he : eB = 5 ∨ eB = 54) {Ab : Option Addr} {nb cb : Nat} {l : List UInt8} (hb : w.ownsRow base eB 1 (Value.slice Ab nb cb) nb (by8 l)) (i : Nat) :
    Wbb (w.setCell ⟨g, i, none⟩ (.slice Ab nb cb)) base (some ⟨g, 0, none⟩) c n (L.set i l) := by
  obtain ⟨hl, vs, ho, hi⟩ := h
  have hst := ho.stored i (.slice Ab nb cb)
  have hvl : vs.length = n := by simpa using ho.1
  refine ⟨by rw [List.length_set, hl], _, hst.1, fun j x hx => ?_⟩
  rw [List.getElem?_set] at hx
  by_cases hj : i = j
  · subst hj
    rw [if_pos rfl] at hx
    split at hx
    · injection hx with hx
      subst hx
      rename_i hlt
      exact ⟨Ab, nb, cb, eB, he, by rw [List.getElem?_set_self (by omega)], hb.kept hst.2 (own_ne hb ho (tag_ne he))⟩
    · cases hx
  · rw [if_neg hj] at hx
    obtain ⟨Ai, ni, ci, e, h0, h1, h2⟩ := hi j x hx
    exact ⟨Ai, ni, ci, e, h0, by rw [List.getElem?_set_ne hj]; exact h1, h2.kept hst.2 (own_ne h2 ho (tag_ne h0))⟩
end
/-- Blocks from base on that stand as they stood. -/
theorem own_stay {w w' : World} {base : Nat} {e : TypeId} {size : Nat} {v : Value} {n : Nat} {xs : List Value} (h : w.ownsRow base e size v n xs) (hf : ∀ b, base ≤ b → b < w.heap.size → w'.heap[b]? = w.heap[b]?) : w'.ownsRow base e size v n xs := by
  refine ⟨h.1, ?_⟩
  rcases h.2 with h2 | ⟨g, cap, cur, hv, hg, hh, r⟩
  · exact .inl h2
  · exact .inr ⟨g, cap, cur, hv, hg, (hf g hg (Array.getElem?_eq_some_iff.1 hh).1).trans hh, r⟩
theorem Obb.stay {eS eB : TypeId} {w w' : World} {base : Nat} {A : Option Addr} {c n : Nat} {L : List (List UInt8)} (h : Obb eS eB w base A c n L) (hf : ∀ b, base ≤ b → b < w.heap.size → w'.heap[b]? = w.heap[b]?) : Obb eS eB w' base A c n L := by
  obtain ⟨hl, vs, ho, hi⟩ := h
  exact ⟨hl, vs, own_stay ho hf, fun i l hl => by
    obtain ⟨Ai, ni, ci, h1, h2⟩ := hi i l hl
    exact ⟨Ai, ni, ci, h1, own_stay h2 hf⟩⟩
end Go.Proofs.Ytmdhckcoinhfpaa

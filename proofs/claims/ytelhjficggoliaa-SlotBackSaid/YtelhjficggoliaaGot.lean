/- Plain laws on what Get and Seen answer. No function of the program is named. -/
import Derived.Test.YtelhjficggoliaaWg
import Derived.Laws.BitsAllLaws
namespace Go.Proofs.Ytelhjficggoliaa
open Go.RowKit

theorem or16 (a b : UInt8) : bits .or .i64 ((a.toNat : Int) * 256) (b.toNat : Int) = ((a.toNat * 256 + b.toNat : Nat) : Int) := by
  have ha := a.toNat_lt
  have hb := b.toNat_lt
  have e : (a.toNat * 256) ||| b.toNat = a.toNat * 256 + b.toNat := by
    have := Nat.two_pow_add_eq_or_of_lt (i := 8) (b := b.toNat) (by omega) a.toNat
    rw [show a.toNat * 256 = 2 ^ 8 * a.toNat by omega, ← this]
  have h1 : (BitVec.ofInt 64 ((a.toNat : Int) * 256)).toNat = a.toNat * 256 := by
    rw [BitVec.toNat_ofInt]; omega
  have h2 : (BitVec.ofInt 64 (b.toNat : Int)).toNat = b.toNat := by
    rw [BitVec.toNat_ofInt]; omega
  show IntKind.i64.wrap ((BitVec.ofInt 64 ((a.toNat : Int) * 256) ||| BitVec.ofInt 64 (b.toNat : Int)).toNat : Int) = _
  rw [BitVec.toNat_or, h1, h2, e, IntKind.wrap_i64]
  omega

def nth (L : List (List UInt8)) (k : Nat) : List UInt8 := L.getD k []
/-- Do all sectors have the first one's generation? -/
def okK (L : List (List UInt8)) (k : Nat) : Prop := ∀ j, j < k → stampB (nth L j) = true ∧ stampN (nth L j) = stampN (nth L 0)
/-- Parts of the first k sectors, one behind the other. -/
def parts (L : List (List UInt8)) : Nat → List UInt8
  | 0 => []
  | k + 1 => parts L k ++ ((nth L k).drop 9).take 239
def lenL (L : List (List UInt8)) : Nat := ((parts L 4).getD 0 0).toNat * 256 + ((parts L 4).getD 1 0).toNat
def bodyL (L : List (List UInt8)) : List UInt8 := ((parts L 4).drop 2).take (lenL L)
open Classical in
noncomputable def getE (L : List (List UInt8)) : Int :=
  if L.length ≠ 4 then 3 else if ¬ okK L 4 then 3 else if 954 < lenL L then 4 else if secs (stampN (nth L 0)) (bodyL L) 4 = L then 0 else 4
noncomputable def getN (L : List (List UInt8)) : Nat := if getE L = 0 then stampN (nth L 0) else 0
noncomputable def getB (L : List (List UInt8)) : List UInt8 := if getE L = 0 then bodyL L else []
def GetPost (L : List (List UInt8)) (w : World) (e : Ending) (w' : World) : Prop :=
  ∃ A n c, e = .returned (.tuple #[.int .i64 (getN L : Nat), .slice A n c, .int .i64 (getE L)]) ∧ Rb w' A n (getB L) ∧ n ≤ 954 ∧ Below w.heap.size w w'
/-- Get says no, with error x. -/
theorem get_no {L : List (List UInt8)} {x : Int} {w w' : World} (he : getE L = x) (hx : x ≠ 0) (hb : Below w.heap.size w w') : GetPost L w (.returned (.tuple #[.int .i64 0, .slice none 0 0, .int .i64 x])) w' := by
  refine ⟨none, 0, 0, ?_, ?_, by omega, hb⟩
  · unfold getN; rw [he, if_neg hx]; rfl
  · unfold getB; rw [he, if_neg hx]; exact Rb.none_ _ _
theorem getE_len {L : List (List UInt8)} (h : L.length ≠ 4) : getE L = 3 := by unfold getE; rw [if_pos h]
theorem getE_cut {L : List (List UInt8)} (h : L.length = 4) (k : Nat) (hk : k < 4) (h2 : ¬ (stampB (nth L k) = true ∧ stampN (nth L k) = stampN (nth L 0))) : getE L = 3 := by
  unfold getE
  rw [if_neg (by omega), if_pos (fun h => h2 (h k hk))]
theorem getE_big {L : List (List UInt8)} (h : L.length = 4) (h1 : okK L 4) (h2 : 954 < lenL L) : getE L = 4 := by
  unfold getE
  rw [if_neg (by omega), if_neg (fun h => h h1), if_pos h2]
theorem getE_form {L : List (List UInt8)} (h : L.length = 4) (h1 : okK L 4) (h2 : ¬ 954 < lenL L) (h3 : secs (stampN (nth L 0)) (bodyL L) 4 ≠ L) : getE L = 4 := by
  unfold getE
  rw [if_neg (by omega), if_neg (fun h => h h1), if_neg h2, if_neg h3]
theorem getE_yes {L : List (List UInt8)} (h : L.length = 4) (h1 : okK L 4) (h2 : ¬ 954 < lenL L) (h3 : secs (stampN (nth L 0)) (bodyL L) 4 = L) : getE L = 0 := by
  unfold getE
  rw [if_neg (by omega), if_neg (fun h => h h1), if_neg h2, if_pos h3]
theorem getE_no3 (L : List (List UInt8)) : getE L = 0 ∨ getE L = 3 ∨ getE L = 4 := by
  unfold getE
  split
  · simp
  · split
    · simp
    · split
      · simp
      · split <;> simp
theorem stampB_len {l : List UInt8} (h : stampB l = true) : l.length = 256 := by
  unfold stampB at h; simp at h; exact h.1.1
theorem stampB_pos {l : List UInt8} (h : stampB l = true) : 1 ≤ stampN l ∧ stampN l ≤ 1099511627776 := by
  have h0 := h
  unfold stampB at h
  simp at h
  unfold stampN
  rw [if_pos h0]
  refine ⟨h.2, ?_⟩
  unfold genN; split <;> omega
theorem parts_length (L : List (List UInt8)) : ∀ k, okK L k → (parts L k).length = k * 239
  | 0, _ => rfl
  | k + 1, h => by
    have h1 := stampB_len (h k (by omega)).1
    rw [parts, List.length_append, parts_length L k (fun j hj => h j (by omega)), List.length_take, List.length_drop, h1]
    omega
theorem put_secs {n : Nat} {l : List UInt8} (h1 : 1 ≤ n) (h2 : n ≤ 1099511627776) (h : l.length ≤ 954) : putE n l = 0 ∧ putL n l = secs n l 4 := by
  have : putE n l = 0 := by unfold putE; rw [if_neg (by omega), if_neg (by omega)]
  exact ⟨this, by unfold putL; rw [if_pos this]; rfl⟩
theorem bodyL_length {L : List (List UInt8)} (h1 : okK L 4) (h2 : ¬ 954 < lenL L) : (bodyL L).length = lenL L := by
  unfold bodyL
  rw [List.length_take, List.length_drop, parts_length L 4 h1]
  omega

end Go.Proofs.Ytelhjficggoliaa

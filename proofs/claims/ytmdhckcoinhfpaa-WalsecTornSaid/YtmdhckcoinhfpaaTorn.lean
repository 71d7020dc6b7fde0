/- Plain laws: a log that was torn over an elder one. -/
import Derived.Test.YtmdhckcoinhfpaaLog
namespace Go.Proofs.Ytmdhckcoinhfpaa
open Go.RowKit

/-- Up to where sectors are as they were laid, of the first i looked at; m: all. -/
def whK (T Y : Nat → List UInt8) (m : Nat) : Nat → Nat
  | 0 => m
  | i + 1 => if T i = Y i then whK T Y m i else min (whK T Y m i) i
theorem whK_le (T Y : Nat → List UInt8) (m : Nat) : ∀ i, whK T Y m i ≤ m
  | 0 => Nat.le_refl _
  | i + 1 => by
    have := whK_le T Y m i
    unfold whK
    split <;> omega
theorem whK_same (T Y : Nat → List UInt8) (m : Nat) : ∀ i, ∀ j, j < i → j < whK T Y m i → T j = Y j
  | 0, j, hj, _ => absurd hj (by omega)
  | i + 1, j, hj, hw => by
    unfold whK at hw
    by_cases h : T i = Y i
    · rw [if_pos h] at hw
      rcases Nat.lt_or_ge j i with h1 | h1
      · exact whK_same T Y m i j h1 hw
      · obtain rfl : j = i := by omega
        exact h
    · rw [if_neg h] at hw
      exact whK_same T Y m i j (by omega) (by omega)
theorem whK_torn (T Y : Nat → List UInt8) (m : Nat) : ∀ i, i ≤ m → whK T Y m i < m → whK T Y m i < i ∧ T (whK T Y m i) ≠ Y (whK T Y m i)
  | 0, _, h => absurd h (by unfold whK; omega)
  | i + 1, hi, h => by
    unfold whK at h ⊢
    by_cases hc : T i = Y i
    · rw [if_pos hc] at h ⊢
      have := whK_torn T Y m i (by omega) h
      exact ⟨by omega, this.2⟩
    · rw [if_neg hc] at h ⊢
      rcases Nat.lt_or_ge (whK T Y m i) m with h1 | h1
      · have := whK_torn T Y m i (by omega) h1
        rw [Nat.min_eq_left (by omega)]
        exact ⟨by omega, this.2⟩
      · rw [Nat.min_eq_right (by omega)]
        exact ⟨by omega, hc⟩
/-- A sector of a newer log's beginning and an elder one's end, which is not the newer one, is none of the newer log. -/
theorem torn_none {n : Nat} {l : List Tx} {x : List UInt8} {k : Nat} (hl : (body l).length ≤ 239) (hxe : x.drop 248 ≠ be8 n) (hk : k ≤ 256) (hne : (layB n l).take k ++ x.drop k ≠ layB n l) (m : List Tx) :
    ¬ isSec n ((layB n l).take k ++ x.drop k) m := by
  intro h
  have hy := layB_length n l hl
  have hd := layB_drop n m h.len.1
  rw [h.2.2.2, List.drop_append] at hd
  have htl : ((layB n l).take k).length = k := by rw [List.length_take]; omega
  rw [htl] at hd
  by_cases h1 : k ≤ 248
  · rw [List.drop_of_length_le (by omega), List.nil_append, List.drop_drop, show k + (248 - k) = 248 by omega] at hd
    exact hxe hd
  · rw [show 248 - k = 0 by omega, List.drop_zero] at hd
    have e1 : (layB n l).drop 248 = be8 n := layB_drop n l hl
    have e2 : (layB n l).drop 248 = ((layB n l).take k).drop 248 ++ (layB n l).drop k := by
      have := congrArg (List.drop 248) (List.take_append_drop k (layB n l))
      rw [List.drop_append, htl, show 248 - k = 0 by omega, List.drop_zero] at this
      exact this.symm
    rw [e1, ← hd] at e2
    have e3 := List.append_cancel_left e2
    exact hne (by rw [e3, List.take_append_drop])
/-- An elder epoch's sector, or zeros, at a place. -/
def elder (X : List (List UInt8)) (i : Nat) : Prop := (nthB X i).length = 256 ∧ (nthB X i).drop 248 ≠ be8 (secN 8 (i : Int)) ∧ (nthB X i).take 8 ≠ be8 (secN 8 (i : Int))
theorem secN_at (e i : Nat) : secN (e : Int) (i : Int) = 256 * e + i := by unfold secN; omega
theorem be8_ne {a b : Nat} (ha : a < 18446744073709551616) (hb : b < 18446744073709551616) (h : a ≠ b) : be8 a ≠ be8 b := fun e => h (by rw [← val8_be8 a ha, ← val8_be8 b hb, e])
theorem elder_lay {L : List Tx} (h : packE 7 0 L = 0) {i : Nat} (hi : i < parts L) (X : List (List UInt8)) (hX : nthB X i = nthB (packL 7 0 L) i) : elder X i := by
  obtain ⟨_, _, _, h4, h5, h6⟩ := pack_yes h
  obtain ⟨_, b, c⟩ := piece_ok h5 hi
  unfold elder
  rw [hX, h6, nthB_packK _ _ _ _ _ hi, Int.zero_add]
  have hb : (body ((pieces L).getD i [])).length ≤ 239 := by rw [body_length _ b]; exact c
  have hne : be8 (secN 7 (i : Int)) ≠ be8 (secN 8 (i : Int)) := be8_ne (by unfold secN; omega) (by unfold secN; omega) (by unfold secN; omega)
  exact ⟨layB_length _ _ hb, by rw [layB_drop _ _ hb]; exact hne, by rw [layB_take]; exact hne⟩
theorem elder_zero {X : List (List UInt8)} {i : Nat} (hi : i < 256) (h : nthB X i = zeros8 256) : elder X i := by
  unfold elder
  rw [h]
  have hz : be8 0 = zeros8 8 := by decide
  have hne : zeros8 8 ≠ be8 (secN 8 (i : Int)) := by rw [← hz]; exact be8_ne (by omega) (by unfold secN; omega) (by unfold secN; omega)
  refine ⟨List.length_replicate .., ?_, ?_⟩
  · show (List.replicate 256 0).drop 248 ≠ _
    rw [List.drop_replicate]
    exact hne
  · show (List.replicate 256 0).take 8 ≠ _
    rw [List.take_replicate]
    exact hne
/-- What is told of a torn log: up to the first sector that is not whole. -/
theorem scan_torn {M : List Tx} (h : packE 8 0 M = 0) (X : List (List UInt8)) (kf : Nat → Nat) (hkf : ∀ i, kf i ≤ 256) (hX : ∀ i, i < X.length → elder X i) (hXl : parts M ≤ X.length)
    (T : Nat → List UInt8) (hT : ∀ i, T i = (nthB (packL 8 0 M) i).take (kf i) ++ (nthB X i).drop (kf i)) (F : List (List UInt8)) (hF : F.length = X.length) (hFi : ∀ i, i < X.length → nthB F i = if i < parts M then T i else nthB X i)
    (wh : Nat) (hw : wh = whK T (nthB (packL 8 0 M)) (parts M) (parts M)) :
    scanN F 8 = wh ∧ textK F 8 wh = ((pieces M).take wh).flatten ∧ scanN ((packL 8 0 M).take wh) 8 = wh ∧ textK ((packL 8 0 M).take wh) 8 wh = ((pieces M).take wh).flatten ∧ wh ≤ parts M := by
  have hle : wh ≤ parts M := by rw [hw]; exact whK_le _ _ _ _
  obtain ⟨q1, q2, q3, q4, q5, q6⟩ := laid_one h
  have hlen : (packL 8 0 M).length = parts M := by rw [(pack_yes h).2.2.2.2.2, packK_length]
  have hk : laidK F 8 (pieces M) wh := by
    refine ⟨by rw [hF]; omega, by omega, by show wh ≤ parts M; exact hle, q4, q5, fun j hj => ?_⟩
    rw [hFi j (by omega), if_pos (by omega)]
    have hs := whK_same T (nthB (packL 8 0 M)) (parts M) (parts M) j (by omega) (by rw [← hw]; exact hj)
    rw [hs]
    exact q6 j (by omega)
  have hend : wh < F.length → (readS (nthB F wh) 8 (wh : Int)).2 = false := fun hl => by
    rw [hF] at hl
    obtain ⟨_, x2, x3⟩ := hX wh hl
    rw [hFi wh hl]
    by_cases hp : wh < parts M
    · rw [if_pos hp]
      have ht := (whK_torn T (nthB (packL 8 0 M)) (parts M) (parts M) (Nat.le_refl _) (by rw [← hw]; exact hp)).2
      rw [← hw, hT] at ht
      obtain ⟨e, _, b, c⟩ := q6 wh hp
      rw [hT, e]
      rw [e] at ht
      rw [readS_no fun _ m => torn_none (by rw [body_length _ b]; exact c) x2 (hkf wh) ht m]
    · rw [if_neg hp]
      rw [readS_no fun _ m hm => x3 (by
        have := layB_take (secN 8 (wh : Int)) m
        rw [hm.2.2.2] at this
        exact this)]
  have s1 := hk.scan hend
  have hk2 : laidK ((packL 8 0 M).take wh) 8 (pieces M) wh := by
    refine ⟨by rw [List.length_take, hlen]; omega, by omega, by show wh ≤ parts M; exact hle, q4, q5, fun j hj => ?_⟩
    have : nthB ((packL 8 0 M).take wh) j = nthB (packL 8 0 M) j := by simp [nthB, List.getD, hj]
    rw [this]
    exact q6 j (by omega)
  have s2 := hk2.scan (fun hl => by rw [List.length_take] at hl; omega)
  exact ⟨s1.1, s1.2, s2.1, s2.2, hle⟩
/-- The first groups' texts are a beginning of all. -/
theorem take_flat (M : List Tx) (k : Nat) : ((pieces M).take k).flatten = M.take ((pieces M).take k).flatten.length := by
  have h : ((pieces M).take k).flatten ++ ((pieces M).drop k).flatten = M := by
    rw [← List.flatten_append, List.take_append_drop, pieces_flat]
  have := congrArg (List.take ((pieces M).take k).flatten.length) h
  rw [List.take_left' rfl] at this
  exact this
end Go.Proofs.Ytmdhckcoinhfpaa

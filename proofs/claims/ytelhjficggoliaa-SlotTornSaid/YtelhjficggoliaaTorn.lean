/- Plain laws: sectors of two writings; what is got of them is one of both, or none. No function of the program is named. -/
import Derived.Test.YtelhjficggoliaaBack
namespace Go.Proofs.Ytelhjficggoliaa
open Go.RowKit

/-- One sector of two: kind 0 the elder, 1 the newer, 2 the newer's first bytes and the elder's others. -/
def mixOne (e y : List UInt8) (k c : Nat) : List UInt8 := if k % 3 = 0 then e else if k % 3 = 1 then y else y.take c ++ e.drop c
/-- The first k of them. -/
def mixK (X Y : List (List UInt8)) (f g : Nat → Nat) (k : Nat) : List (List UInt8) := (List.range k).map fun i => mixOne (nth X i) (nth Y i) (f i) (g i)
theorem mixK_succ (X Y : List (List UInt8)) (f g : Nat → Nat) (k : Nat) : mixK X Y f g (k + 1) = mixK X Y f g k ++ [mixOne (nth X k) (nth Y k) (f k) (g k)] := by
  simp [mixK, List.range_succ]
theorem mixK_length (X Y : List (List UInt8)) (f g : Nat → Nat) (k : Nat) : (mixK X Y f g k).length = k := by simp [mixK]
theorem nth_mixK (X Y : List (List UInt8)) (f g : Nat → Nat) (k i : Nat) (h : i < k) : nth (mixK X Y f g k) i = mixOne (nth X i) (nth Y i) (f i) (g i) := by
  simp [nth, mixK, List.getD, h]
theorem torn_two (e y : List UInt8) (k : Nat) (he : e.length = 256) (hy : y.length = 256) (hk : k ≤ 256) (he2 : e.take 8 = e.drop 248) (hy2 : y.take 8 = y.drop 248) (hne : y.take 8 ≠ e.take 8)
    (h : (y.take k ++ e.drop k).take 8 = (y.take k ++ e.drop k).drop 248) : y.take k ++ e.drop k = e ∨ y.take k ++ e.drop k = y := by
  have hl : (y.take k).length = k := by rw [List.length_take]; omega
  rw [List.take_append, List.drop_append, hl, List.take_take, List.take_drop, List.drop_drop] at h
  by_cases h1 : k < 8
  · left
    rw [show min 8 k = k by omega, show k + (8 - k) = 8 by omega, show (y.take k).drop 248 = [] from List.drop_eq_nil_of_le (by omega), List.nil_append, show k + (248 - k) = 248 by omega, ← he2] at h
    have h2 := congrArg (List.take k) h
    rw [List.take_left' hl, List.take_take, show min k 8 = k by omega] at h2
    rw [h2, List.take_append_drop]
  · rw [show min 8 k = 8 by omega, show k + (8 - k) = k by omega, show (e.take k).drop k = [] from List.drop_eq_nil_of_le (by rw [List.length_take]; omega), List.append_nil] at h
    by_cases h3 : 248 < k
    · right
      have e0 : 248 - k = 0 := by omega
      rw [e0, Nat.add_zero, hy2] at h
      have h2 : y.drop 248 = (y.drop 248).take (k - 248) ++ (y.drop 248).drop (k - 248) := (List.take_append_drop _ _).symm
      have h4 : (y.take k).drop 248 = (y.drop 248).take (k - 248) := by
        rw [List.drop_take]
      rw [h4] at h
      have h5 := List.append_cancel_left (h2.symm.trans h)
      rw [List.drop_drop, show 248 + (k - 248) = k by omega] at h5
      rw [← h5, List.take_append_drop]
    · rw [show (y.take k).drop 248 = [] from List.drop_eq_nil_of_le (by omega), List.nil_append, show k + (248 - k) = 248 by omega, ← he2] at h
      exact absurd h hne

theorem stamp_ends {l : List UInt8} (h : stampB l = true) : l.length = 256 ∧ l.take 8 = l.drop 248 ∧ stampN l = genN (l.take 8) ∧ 1 ≤ genN (l.take 8) := by
  have h256 := stampB_len h
  have h0 := h
  unfold stampB at h
  simp only [Bool.and_eq_true, decide_eq_true_eq, beq_iff_eq] at h
  have e1 : endF l = l.take 8 := by unfold endF; rw [if_pos h256]
  have e2 : endL l = l.drop 248 := by unfold endL; rw [if_pos h256]
  refine ⟨h256, by rw [← e1, ← e2]; exact h.1.2, ?_, by rw [← e1]; exact h.2⟩
  unfold stampN
  rw [if_pos h0, e1]
/-- A sector of two that has a stamp is one of both. -/
theorem mix_two (e y : List UInt8) (f c : Nat) (he : e.length = 256) (hy : y.length = 256) (hc : c ≤ 256) (he2 : e.take 8 = e.drop 248) (hy2 : y.take 8 = y.drop 248) (hne : y.take 8 ≠ e.take 8)
    (h : stampB (mixOne e y f c) = true) : mixOne e y f c = e ∨ mixOne e y f c = y := by
  unfold mixOne at h ⊢
  split
  · exact .inl rfl
  · split
    · exact .inr rfl
    · rename_i h1 h2
      rw [if_neg h1, if_neg h2] at h
      exact torn_two e y c he hy hc he2 hy2 hne (stamp_ends h).2.1
section
variable {a b : Nat} {la lb : List UInt8} (a1 : 1 ≤ a) (a2 : a ≤ 1099511627776) (al : la.length ≤ 954) (b1 : 1 ≤ b) (b2 : b ≤ 1099511627776) (bl : lb.length ≤ 954)
include a1 a2 al b1 b2 bl in
theorem mix_torn (hab : a ≠ b) (f g : Nat → Nat) (hg : ∀ i, g i ≤ 256) (h : okK (mixK (secs a la 4) (secs b lb 4) f g 4) 4) :
    mixK (secs a la 4) (secs b lb 4) f g 4 = secs a la 4 ∨ mixK (secs a la 4) (secs b lb 4) f g 4 = secs b lb 4 := by
  have hone : ∀ i, i < 4 → nth (mixK (secs a la 4) (secs b lb 4) f g 4) i = sec a la i ∧ stampN (nth (mixK (secs a la 4) (secs b lb 4) f g 4) i) = a ∨ nth (mixK (secs a la 4) (secs b lb 4) f g 4) i = sec b lb i ∧ stampN (nth (mixK (secs a la 4) (secs b lb 4) f g 4) i) = b := fun i hi => by
    have hs := (h i hi).1
    rw [nth_mixK _ _ _ _ _ _ hi, nth_secs a la 4 i hi, nth_secs b lb 4 i hi] at hs ⊢
    rcases mix_two (sec a la i) (sec b lb i) (f i) (g i) (sec_length a la i al hi) (sec_length b lb i bl hi) (hg i) (by rw [sec_take, sec_drop al i hi]) (by rw [sec_take, sec_drop bl i hi])
      (by rw [sec_take, sec_take]; intro e; exact hab (by rw [← val8_be8 a (by omega), ← val8_be8 b (by omega), e])) hs with e | e
    · left; rw [e]; exact ⟨rfl, (stamp_sec a1 a2 al i hi).2⟩
    · right; rw [e]; exact ⟨rfl, (stamp_sec b1 b2 bl i hi).2⟩
  rcases hone 0 (by omega) with ⟨_, e0⟩ | ⟨_, e0⟩
  · left
    refine list_ext_getD [] (by rw [mixK_length, secs_length]) (fun j hj => ?_)
    rw [mixK_length] at hj
    show nth _ j = nth _ j
    rw [nth_secs a la 4 j hj]
    rcases hone j hj with ⟨e, _⟩ | ⟨_, e⟩
    · exact e
    · have := (h j hj).2
      rw [e, e0] at this
      exact absurd this.symm hab
  · right
    refine list_ext_getD [] (by rw [mixK_length, secs_length]) (fun j hj => ?_)
    rw [mixK_length] at hj
    show nth _ j = nth _ j
    rw [nth_secs b lb 4 j hj]
    rcases hone j hj with ⟨_, e⟩ | ⟨e, _⟩
    · have := (h j hj).2
      rw [e, e0] at this
      exact absurd this hab
    · exact e
/-- Over zeros. -/
def zero4 : List (List UInt8) := [zs8 256, zs8 256, zs8 256, zs8 256]
theorem nth_zero4 (i : Nat) (h : i < 4) : nth zero4 i = zs8 256 := by
  have : i = 0 ∨ i = 1 ∨ i = 2 ∨ i = 3 := by omega
  rcases this with rfl | rfl | rfl | rfl <;> rfl
theorem genN_zs8 : genN ((zs8 256).take 8) = 0 := by decide
theorem zs8_ends : (zs8 256).take 8 = (zs8 256).drop 248 := by decide
include b1 b2 bl in
theorem mix_zero (f g : Nat → Nat) (hg : ∀ i, g i ≤ 256) (h : okK (mixK zero4 (secs b lb 4) f g 4) 4) : mixK zero4 (secs b lb 4) f g 4 = secs b lb 4 := by
  refine list_ext_getD [] (by rw [mixK_length, secs_length]) (fun i hi => ?_)
  rw [mixK_length] at hi
  show nth _ i = nth _ i
  have hs := (h i hi).1
  rw [nth_mixK _ _ _ _ _ _ hi, nth_zero4 i hi, nth_secs b lb 4 i hi] at hs ⊢
  rcases mix_two (zs8 256) (sec b lb i) (f i) (g i) (zs8_length 256) (sec_length b lb i bl hi) (hg i) zs8_ends (by rw [sec_take, sec_drop bl i hi])
      (by
        rw [sec_take]; intro e
        have h1 := genN_be8 (n := b) b2
        rw [e, genN_zs8] at h1
        omega) hs with e | e
  · exfalso
    rw [e] at hs
    have := (stamp_ends hs).2.2.2
    rw [genN_zs8] at this
    omega
  · exact e
include a1 a2 al b1 b2 bl in
/-- What is got of both is one of both, or it is cut. -/
theorem got_torn (hab : a ≠ b) (f g : Nat → Nat) (hg : ∀ i, g i ≤ 256) (L : List (List UInt8)) (hL : L = mixK (secs a la 4) (secs b lb 4) f g 4) :
    (getE L = 3) ∨ (getE L = 0 ∧ getN L = a ∧ getB L = la) ∨ (getE L = 0 ∧ getN L = b ∧ getB L = lb) := by
  by_cases h : okK L 4
  · subst hL
    rcases mix_torn a1 a2 al b1 b2 bl hab f g hg h with e | e
    · right; left; rw [e]; exact got a1 a2 al
    · right; right; rw [e]; exact got b1 b2 bl
  · left
    unfold getE
    rw [if_neg (by rw [hL, mixK_length]; omega), if_pos h]
include b1 b2 bl in
theorem got_zero (f g : Nat → Nat) (hg : ∀ i, g i ≤ 256) (L : List (List UInt8)) (hL : L = mixK zero4 (secs b lb 4) f g 4) : getE L = 3 ∨ getE L = 0 := by
  by_cases h : okK L 4
  · right; subst hL
    rw [mix_zero b1 b2 bl f g hg h]; exact (got b1 b2 bl).1
  · left
    unfold getE
    rw [if_neg (by rw [hL, mixK_length]; omega), if_pos h]
include b1 b2 bl in
theorem got_kept (X : List (List UInt8)) (f g : Nat → Nat) (hf : ∀ i, i < 4 → f i % 3 = 1) (L : List (List UInt8)) (hL : L = mixK X (secs b lb 4) f g 4) : getE L = 0 := by
  have : L = secs b lb 4 := by
    rw [hL]
    refine list_ext_getD [] (by rw [mixK_length, secs_length]) (fun i hi => ?_)
    rw [mixK_length] at hi
    show nth _ i = nth _ i
    rw [nth_mixK _ _ _ _ _ _ hi]
    unfold mixOne
    rw [if_neg (by have := hf i hi; omega), if_pos (hf i hi)]
  rw [this]; exact (got b1 b2 bl).1
end
/-- What was seen is no less than any stamp. -/
theorem seenK_mono (L : List (List UInt8)) : ∀ k j, seenK L k ≤ seenK L (k + j)
  | _, 0 => Nat.le_refl _
  | k, j + 1 => by
    refine Nat.le_trans (seenK_mono L k j) ?_
    show _ ≤ seenK L (k + j + 1)
    rw [seenK]
    split <;> omega
theorem stamp_seen (L : List (List UInt8)) (n i : Nat) (hi : i < n) (h : stampB (nth L i) = true) : stampN (nth L i) ≤ seenK L n := by
  have h1 := stamp_ends h
  have h2 := seenK_mono L (i + 1) (n - (i + 1))
  rw [show i + 1 + (n - (i + 1)) = n by omega] at h2
  refine Nat.le_trans ?_ h2
  rw [seenK, if_pos h1.1]
  unfold stampN
  rw [if_pos h]
  omega
end Go.Proofs.Ytelhjficggoliaa

/- Plain laws on sealed texts: what is laid is read again; one byte changed, and the sum is another. No program is named. -/
import Derived.Test.YtkgpijojamidiaaMath
namespace Go.Proofs.Ytkgpijojamidiaa

/-- The four bytes of a sum. -/
def fourL (r : W32) : List UInt8 := [UInt8.ofNat (r.toNat / 16777216), UInt8.ofNat (r.toNat / 65536), UInt8.ofNat (r.toNat / 256), UInt8.ofNat r.toNat]
theorem fourL_length (r : W32) : (fourL r).length = 4 := rfl
theorem ofNat_inj {a b : Nat} (h : UInt8.ofNat a = UInt8.ofNat b) : a % 256 = b % 256 := by
  have := congrArg UInt8.toNat h
  simpa using this
theorem fourL_inj {r s : W32} (h : fourL r = fourL s) : r = s := by
  unfold fourL at h
  simp only [List.cons.injEq, and_true] at h
  obtain ⟨h1, h2, h3, h4⟩ := h
  have g1 := ofNat_inj h1
  have g2 := ofNat_inj h2
  have g3 := ofNat_inj h3
  have g4 := ofNat_inj h4
  have hr := r.isLt
  have hs := s.isLt
  apply BitVec.eq_of_toNat_eq
  omega

/-- All that stands behind the sum. -/
def bodyL (l : List UInt8) (N : Nat) : List UInt8 := [UInt8.ofNat (l.length / 256), UInt8.ofNat l.length, 0, 0] ++ (l ++ List.replicate (N - 8 - l.length) 0)
def sealL (l : List UInt8) (N : Nat) : List UInt8 := fourL (crc (bodyL l N)) ++ bodyL l N
theorem bodyL_length (l : List UInt8) (N : Nat) (h : l.length + 8 ≤ N) : (bodyL l N).length = N - 4 := by
  simp [bodyL]; omega
theorem sealL_length (l : List UInt8) (N : Nat) (h : l.length + 8 ≤ N) : (sealL l N).length = N := by
  simp [sealL, bodyL_length l N h, fourL_length]; omega
theorem sealL_take (l : List UInt8) (N : Nat) : (sealL l N).take 4 = fourL (crc (bodyL l N)) := rfl
theorem sealL_drop (l : List UInt8) (N : Nat) : (sealL l N).drop 4 = bodyL l N := rfl

/-- The length that a sealed text tells. -/
def lenOf (b : List UInt8) : Nat := 256 * (b.getD 4 0).toNat + (b.getD 5 0).toNat
def textOf (b : List UInt8) : List UInt8 := (b.drop 8).take (lenOf b)
/-- What the document says of any bytes and any size. -/
def openS (b : List UInt8) (size : Int) : List UInt8 × Int :=
  if size < 8 ∨ 65536 < size then ([], 2)
  else if (b.length : Int) ≠ size then ([], 3)
  else if b.take 4 ≠ fourL (crc (b.drop 4)) then ([], 10)
  else if size - 8 < (lenOf b : Int) then ([], 4)
  else if bodyL (textOf b) b.length ≠ b.drop 4 then ([], 4)
  else (textOf b, 0)
def sealS (l : List UInt8) (size : Int) : List UInt8 × Int :=
  if size < 8 ∨ 65536 < size then ([], 2)
  else if size - 8 < (l.length : Int) then ([], 5)
  else (sealL l size.toNat, 0)

theorem lenOf_seal (l : List UInt8) (N : Nat) (h : l.length + 8 ≤ N) (hN : N ≤ 65536) : lenOf (sealL l N) = l.length := by
  have e4 : (sealL l N).getD 4 0 = UInt8.ofNat (l.length / 256) := rfl
  have e5 : (sealL l N).getD 5 0 = UInt8.ofNat l.length := rfl
  unfold lenOf
  rw [e4, e5]
  simp
  omega
theorem textOf_seal (l : List UInt8) (N : Nat) (h : l.length + 8 ≤ N) (hN : N ≤ 65536) : textOf (sealL l N) = l := by
  unfold textOf
  rw [lenOf_seal l N h hN]
  have e : (sealL l N).drop 8 = l ++ List.replicate (N - 8 - l.length) 0 := rfl
  rw [e]
  exact List.take_left
theorem open_seal (l : List UInt8) (N : Nat) (h : l.length + 8 ≤ N) (hN : N ≤ 65536) : openS (sealL l N) N = (l, 0) := by
  have hlen := sealL_length l N h
  unfold openS
  rw [if_neg (by omega), if_neg (by rw [hlen]; simp), if_neg (by rw [sealL_take, sealL_drop]; simp), if_neg (by rw [lenOf_seal l N h hN]; omega),
    if_neg (by rw [textOf_seal l N h hN, hlen, sealL_drop]; simp), textOf_seal l N h hN]

theorem xor_ne (a d : UInt8) (hd : d ≠ 0) : a ^^^ d ≠ a := by
  intro h
  apply hd
  have h2 : a ^^^ (a ^^^ d) = a ^^^ a := by rw [h]
  rw [← UInt8.xor_assoc, UInt8.xor_self, UInt8.zero_xor] at h2
  exact h2
theorem set_split (b : List UInt8) (i : Nat) (x : UInt8) (hi : i < b.length) : b = b.take i ++ b[i] :: b.drop (i + 1) ∧ b.set i x = b.take i ++ x :: b.drop (i + 1) := by
  constructor
  · rw [← List.drop_eq_getElem_cons hi, List.take_append_drop]
  · exact List.set_eq_take_append_cons_drop ▸ by simp [hi]
/-- One byte changed: the sum does not fit. -/
theorem turned_sum (b : List UInt8) (i : Nat) (x : UInt8) (hi : i < b.length) (hx : x ≠ b[i]) (hok : b.take 4 = fourL (crc (b.drop 4))) :
    (b.set i x).take 4 ≠ fourL (crc ((b.set i x).drop 4)) := by
  intro h
  by_cases h4 : i < 4
  · have e : (b.set i x).drop 4 = b.drop 4 := by
      rw [List.drop_set_of_lt h4]
    rw [e, ← hok, List.take_set] at h
    have h1 := congrArg (fun l => l[i]?) h
    simp only [List.getElem?_set, List.length_take] at h1
    rw [if_pos trivial, if_pos (by omega), List.getElem?_take, if_pos h4, List.getElem?_eq_getElem hi] at h1
    exact hx (by injection h1)
  · have e : (b.set i x).take 4 = b.take 4 := by
      rw [List.take_set, List.set_eq_of_length_le (by rw [List.length_take]; omega)]
    rw [e, hok] at h
    have hc := fourL_inj h
    have hil : i - 4 < (b.drop 4).length := by rw [List.length_drop]; omega
    have e2 : (b.set i x).drop 4 = (b.drop 4).set (i - 4) x := by
      rw [List.drop_set, if_neg h4]
    obtain ⟨s1, s2⟩ := set_split (b.drop 4) (i - 4) x hil
    rw [e2, s2] at hc
    conv at hc => lhs; rw [s1]
    have := crc_one _ _ _ _ hc
    rw [List.getElem_drop] at this
    apply hx
    rw [← this]
    congr 1
    omega
theorem open_turned (b : List UInt8) (N i : Nat) (x : UInt8) (hlen : b.length = N) (h8 : 8 ≤ N) (hN : N ≤ 65536) (hi : i < b.length) (hx : x ≠ b[i]) (hok : b.take 4 = fourL (crc (b.drop 4))) :
    openS (b.set i x) N = ([], 10) := by
  unfold openS
  rw [if_neg (by omega), if_neg (by simp [hlen]), if_pos (turned_sum b i x hi hx hok)]

/-- The row of the program: zeros, the length, the text. -/
theorem laid_row (l : List UInt8) (N : Nat) (h : l.length + 8 ≤ N) (a b : UInt8) (L : List UInt8)
    (hL : L = (((List.replicate N (0 : UInt8)).set 4 a).set 5 b)) : L.take 8 ++ (l ++ L.drop (8 + l.length)) = [0, 0, 0, 0] ++ ([a, b, 0, 0] ++ (l ++ List.replicate (N - 8 - l.length) 0)) := by
  obtain ⟨M, rfl⟩ : ∃ M, N = M + 8 := ⟨N - 8, by omega⟩
  subst hL
  have e : (((List.replicate (M + 8) (0 : UInt8)).set 4 a).set 5 b) = [0, 0, 0, 0, a, b, 0, 0] ++ List.replicate M 0 := by
    simp [List.replicate_succ]
  have e8 : ([0, 0, 0, 0, a, b, 0, 0] ++ List.replicate M (0 : UInt8)).drop (8 + l.length) = List.replicate (M - l.length) 0 := by
    rw [← List.drop_drop]
    simp
  rw [e, e8]
  simp
theorem eq_zeros (l : List UInt8) : l = List.replicate l.length 0 ↔ ∀ c ∈ l, c = 0 := by
  rw [List.eq_replicate_iff]; simp
theorem getD_lt (l : List UInt8) (k : Nat) (h : k < l.length) : l.getD k 0 = l[k] := by simp [List.getD, h]
/-- When is what is read just what is laid? -/
theorem body_iff (l : List UInt8) (h : lenOf l + 8 ≤ l.length) (hN : l.length ≤ 65536) :
    bodyL (textOf l) l.length = l.drop 4 ↔ (l.getD 6 0 = 0 ∧ l.getD 7 0 = 0 ∧ ∀ c ∈ l.drop (8 + lenOf l), c = 0) := by
  have e : l.drop 4 = [l.getD 4 0, l.getD 5 0, l.getD 6 0, l.getD 7 0] ++ l.drop 8 := by
    rw [List.drop_eq_getElem_cons (by omega), List.drop_eq_getElem_cons (by omega), List.drop_eq_getElem_cons (by omega), List.drop_eq_getElem_cons (by omega),
      getD_lt l 4 (by omega), getD_lt l 5 (by omega), getD_lt l 6 (by omega), getD_lt l 7 (by omega)]
    rfl
  have e8 : l.drop 8 = textOf l ++ l.drop (8 + lenOf l) := by
    unfold textOf
    rw [← List.drop_drop, List.take_append_drop]
  have hlen : (textOf l).length = lenOf l := by
    unfold textOf; rw [List.length_take, List.length_drop]; omega
  have h4 := (l.getD 4 0).toNat_lt
  have h5 := (l.getD 5 0).toNat_lt
  have i4 : UInt8.ofNat ((textOf l).length / 256) = l.getD 4 0 := by
    apply UInt8.toNat_inj.1
    rw [hlen, UInt8.toNat_ofNat']; unfold lenOf; omega
  have i5 : UInt8.ofNat (textOf l).length = l.getD 5 0 := by
    apply UInt8.toNat_inj.1
    rw [hlen, UInt8.toNat_ofNat']; unfold lenOf; omega
  have hz : l.length - 8 - (textOf l).length = (l.drop (8 + lenOf l)).length := by rw [hlen, List.length_drop]; omega
  unfold bodyL
  rw [i4, i5, hz, e, e8]
  rw [← eq_zeros]
  simp only [List.cons_append, List.nil_append, List.cons.injEq, true_and, List.append_cancel_left_eq]
  constructor
  · rintro ⟨a, b, c⟩; exact ⟨a.symm, b.symm, c.symm⟩
  · rintro ⟨a, b, c⟩; exact ⟨a.symm, b.symm, c.symm⟩

/-- What is read is laid again just where the rest behind the sum is. -/
theorem seal_iff (l : List UInt8) (N : Nat) (h : l.take 4 = fourL (crc (l.drop 4))) : sealL (textOf l) N = l ↔ bodyL (textOf l) N = l.drop 4 := by
  unfold sealL
  constructor
  · intro e
    conv => rhs; rw [← e]
    rfl
  · intro e
    rw [e, ← h, List.take_append_drop]
theorem take4 (l : List UInt8) (h : 4 ≤ l.length) : l.take 4 = [l.getD 0 0, l.getD 1 0, l.getD 2 0, l.getD 3 0] := by
  match l, h with
  | a :: b :: c :: d :: l, _ => rfl
theorem sum_iff (l : List UInt8) (S : W32) (h : 4 ≤ l.length) : l.take 4 = fourL S ↔
    (((l.getD 0 0).toNat : Int) = (S.toNat : Int) / 16777216 % 256 ∧ ((l.getD 1 0).toNat : Int) = (S.toNat : Int) / 65536 % 256 ∧ ((l.getD 2 0).toNat : Int) = (S.toNat : Int) / 256 % 256 ∧ ((l.getD 3 0).toNat : Int) = (S.toNat : Int) % 256) := by
  rw [take4 l h]
  unfold fourL
  simp only [List.cons.injEq, and_true, ← UInt8.toNat_inj, UInt8.toNat_ofNat']
  omega

end Go.Proofs.Ytkgpijojamidiaa

/- Plain laws: what is put is got. No function of the program is named. -/
import Derived.Test.YtelhjficggoliaaWk
namespace Go.Proofs.Ytelhjficggoliaa
open Go.RowKit

section
variable {n : Nat} {l : List UInt8} (h1 : 1 ≤ n) (h2 : n ≤ 1099511627776) (hl : l.length ≤ 954)
theorem sec_take (n : Nat) (l : List UInt8) (k : Nat) : (sec n l k).take 8 = be8 n := by
  unfold sec
  rw [List.append_assoc, List.append_assoc]
  exact List.take_left' (by rw [be8_length])
include hl in
theorem sec_drop (k : Nat) (hk : k < 4) : (sec n l k).drop 248 = be8 n := by
  unfold sec
  exact List.drop_left' (by simp [be8_length, allB_length l hl]; omega)
include hl in
theorem sec_part (k : Nat) (hk : k < 4) : ((sec n l k).drop 9).take 239 = ((allB l).drop (k * 239)).take 239 := by
  unfold sec
  rw [List.append_assoc, List.drop_left' (by simp [be8_length])]
  exact List.take_left' (by simp [allB_length l hl]; omega)
theorem nth_secs (n : Nat) (l : List UInt8) (m k : Nat) (hk : k < m) : nth (secs n l m) k = sec n l k := by
  simp [nth, secs, List.getD, hk]
include h2 in
theorem genN_be8 : genN (be8 n) = n := by
  unfold genN
  rw [val8_be8 n (by omega), if_pos h2]
include h1 h2 hl in
theorem stamp_sec (k : Nat) (hk : k < 4) : stampB (sec n l k) = true ∧ stampN (sec n l k) = n := by
  have hlen := sec_length n l k hl hk
  have e1 : endF (sec n l k) = be8 n := by unfold endF; rw [if_pos hlen, sec_take]
  have e2 : endL (sec n l k) = be8 n := by unfold endL; rw [if_pos hlen, sec_drop hl k hk]
  have hB : stampB (sec n l k) = true := by
    unfold stampB
    rw [e1, e2, genN_be8 h2, decide_eq_true hlen, beq_self_eq_true, decide_eq_true h1]
    rfl
  exact ⟨hB, by unfold stampN; rw [if_pos hB, e1, genN_be8 h2]⟩
theorem take_239 (M : List UInt8) (k : Nat) : M.take (k * 239) ++ (M.drop (k * 239)).take 239 = M.take ((k + 1) * 239) := by
  rw [show (k + 1) * 239 = k * 239 + 239 by omega, List.take_add]
include hl in
theorem parts_secs : ∀ k, k ≤ 4 → parts (secs n l 4) k = (allB l).take (k * 239)
  | 0, _ => rfl
  | k + 1, hk => by
    rw [parts, parts_secs k (by omega), nth_secs n l 4 k (by omega), sec_part hl k (by omega), take_239]
include hl in
theorem parts_all : parts (secs n l 4) 4 = allB l := by
  rw [parts_secs hl 4 (Nat.le_refl _), List.take_of_length_le (by rw [allB_length l hl]; omega)]
include hl in
theorem lenL_secs : lenL (secs n l 4) = l.length := by
  unfold lenL
  rw [parts_all hl]
  simp only [allB, List.getD_cons_zero, List.getD_cons_succ, UInt8.toNat_ofNat']
  omega
include hl in
theorem bodyL_secs : bodyL (secs n l 4) = l := by
  unfold bodyL
  rw [parts_all hl, lenL_secs hl]
  show (l ++ zs8 (954 - l.length)).take l.length = l
  exact List.take_left' rfl
include h1 h2 hl in
theorem ok_secs : okK (secs n l 4) 4 := fun j hj => by
  rw [nth_secs n l 4 j hj, nth_secs n l 4 0 (by omega)]
  have a := stamp_sec h1 h2 hl j hj
  have b := stamp_sec h1 h2 hl 0 (by omega)
  exact ⟨a.1, by rw [a.2, b.2]⟩
include h1 h2 hl in
theorem got : getE (secs n l 4) = 0 ∧ getN (secs n l 4) = n ∧ getB (secs n l 4) = l := by
  have hg : stampN (nth (secs n l 4) 0) = n := by rw [nth_secs n l 4 0 (by omega)]; exact (stamp_sec h1 h2 hl 0 (by omega)).2
  have hE : getE (secs n l 4) = 0 := getE_yes (secs_length n l 4) (ok_secs h1 h2 hl) (by rw [lenL_secs hl]; omega) (by rw [hg, bodyL_secs hl])
  exact ⟨hE, by unfold getN; rw [if_pos hE, hg], by unfold getB; rw [if_pos hE, bodyL_secs hl]⟩
end

end Go.Proofs.Ytelhjficggoliaa

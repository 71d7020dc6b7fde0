/- Plain: how long the sectors of the two logs are. -/
import Derived.Test.YtmdhckcoinhfpaaWn
import Derived.Outline
namespace Go.Proofs.Ytmdhckcoinhfpaa
open Go.RowKit
theorem elder_long {L : List Tx} (h : packE 7 0 L = 0) {k j : Nat} (hk : parts L ≤ k) (hk2 : k ≤ 256) (hj : j < k) : elder (longX (packL 7 0 L) k) j := by
  have hxl : (packL 7 0 L).length = parts L := by rw [(pack_yes h).2.2.2.2.2, packK_length]
  have hn := nthB_longX (packL 7 0 L) k j hj (by omega)
  by_cases hjx : j < parts L
  · rw [if_pos (by omega)] at hn
    exact elder_lay h hjx _ hn
  · rw [if_neg (by omega)] at hn
    exact elder_zero (by omega) hn
theorem newer_len {M : List Tx} (h : packE 8 0 M = 0) {j : Nat} (hj : j < parts M) : (nthB (packL 8 0 M) j).length = 256 := by
  obtain ⟨_, _, _, h4, h5, h6⟩ := pack_yes h
  obtain ⟨_, b, c⟩ := piece_ok h5 hj
  rw [h6, nthB_packK _ _ _ _ _ hj, Int.zero_add]
  exact layB_length _ _ (by rw [body_length _ b]; exact c)
end Go.Proofs.Ytmdhckcoinhfpaa

/- Plain laws: what is packed is scanned; logs one behind the other. -/
import Derived.Test.YtmdhckcoinhfpaaWk
namespace Go.Proofs.Ytmdhckcoinhfpaa
open Go.RowKit

/-- The first k sectors of L are those of the groups PP, from place 0 on. -/
def laidK (L : List (List UInt8)) (n : Int) (PP : List (List Tx)) (k : Nat) : Prop :=
  k ≤ L.length ∧ k ≤ 256 ∧ k ≤ PP.length ∧ 1 ≤ n ∧ n ≤ 1099511627776 ∧ ∀ j, j < k → nthB L j = layB (secN n (j : Int)) (PP.getD j []) ∧ PP.getD j [] ≠ [] ∧ (∀ s ∈ PP.getD j [], s.length ≤ 238) ∧ costs (PP.getD j []) ≤ 239
theorem laidK.read {L : List (List UInt8)} {n : Int} {PP : List (List Tx)} {k : Nat} (h : laidK L n PP k) {j : Nat} (hj : j < k) : readS (nthB L j) n (j : Int) = (PP.getD j [], true) := by
  obtain ⟨_, h2, _, h4, h5, h6⟩ := h
  obtain ⟨e, a, b, c⟩ := h6 j hj
  rw [e]
  exact readS_yes ⟨h4, h5, by omega, by omega⟩ ⟨a, b, c, rfl⟩
theorem laidK.text {L : List (List UInt8)} {n : Int} {PP : List (List Tx)} {k : Nat} (h : laidK L n PP k) : ∀ m, m ≤ k → textK L n m = (PP.take m).flatten
  | 0, _ => by rw [List.take_zero]; rfl
  | m + 1, hm => by
    have hl : m < PP.length := by have := h.2.2.1; omega
    rw [textK, h.text m (by omega), h.read (by omega), List.take_succ_eq_append_getElem hl, List.flatten_append]
    simp [List.getD, hl]
theorem laidK.scan {L : List (List UInt8)} {n : Int} {PP : List (List Tx)} {k : Nat} (h : laidK L n PP k) (hend : k < L.length → (readS (nthB L k) n (k : Int)).2 = false) : scanN L n = k ∧ textK L n k = (PP.take k).flatten :=
  ⟨scanN_eq ⟨h.1, fun j hj => by rw [h.read hj], hend⟩, h.text k (Nat.le_refl _)⟩
theorem nthB_app (X Y : List (List UInt8)) (j : Nat) : nthB (X ++ Y) j = if j < X.length then nthB X j else nthB Y (j - X.length) := by
  unfold nthB
  by_cases h : j < X.length
  · rw [if_pos h]
    simp [List.getD, List.getElem?_append_left h]
  · rw [if_neg h]
    simp [List.getD, List.getElem?_append_right (by omega : X.length ≤ j)]
theorem getD_app {α : Type} (X Y : List α) (j : Nat) (d : α) : (X ++ Y).getD j d = if j < X.length then X.getD j d else Y.getD (j - X.length) d := by
  by_cases h : j < X.length
  · rw [if_pos h]
    simp [List.getD, List.getElem?_append_left h]
  · rw [if_neg h]
    simp [List.getD, List.getElem?_append_right (by omega : X.length ≤ j)]
theorem nthB_packK (e f : Int) (P : List (List Tx)) (k j : Nat) (h : j < k) : nthB (packK e f P k) j = layB (secN e (f + (j : Int))) (P.getD j []) := by
  simp [nthB, packK, List.getD, h]
/-- What Pack says yes to. -/
theorem pack_yes {e f : Int} {L : List Tx} (h : packE e f L = 0) : 1 ≤ e ∧ e ≤ 1099511627776 ∧ 0 ≤ f ∧ f + (parts L : Int) ≤ 256 ∧ (∀ s ∈ L, s.length ≤ 238) ∧ packL e f L = packK e f (pieces L) (parts L) := by
  by_cases hr : e < 1 ∨ 1099511627776 < e ∨ f < 0 ∨ 256 - (parts L : Int) < f
  · rw [(packE_range hr).1] at h; omega
  · by_cases hb : ∃ s ∈ L, 238 < s.length
    · rw [(packE_big hr hb).1] at h; omega
    · exact ⟨by omega, by omega, by omega, by omega, fun s hs => by
        rcases Nat.lt_or_ge 238 s.length with h1 | h1
        · exact absurd ⟨s, hs, h1⟩ hb
        · exact h1, (packE_ok hr hb).2⟩
theorem piece_ok {L : List Tx} (h : ∀ s ∈ L, s.length ≤ 238) {j : Nat} (hj : j < parts L) : (pieces L).getD j [] ≠ [] ∧ (∀ s ∈ (pieces L).getD j [], s.length ≤ 238) ∧ costs ((pieces L).getD j []) ≤ 239 := by
  have hl : j < (pieces L).length := hj
  have hm : (pieces L).getD j [] ∈ pieces L := by simp [List.getD, hl]
  have := pieces_ok L _ hm
  refine ⟨this.1, fun s hs => h s ?_, this.2⟩
  rw [← pieces_flat L]
  exact List.mem_flatten.2 ⟨_, hm, hs⟩
/-- One log alone. -/
theorem laid_one {e : Int} {L : List Tx} (h : packE e 0 L = 0) : laidK (packL e 0 L) e (pieces L) (parts L) := by
  obtain ⟨h1, h2, _, h4, h5, h6⟩ := pack_yes h
  rw [h6]
  refine ⟨by rw [packK_length]; exact Nat.le_refl _, by omega, Nat.le_refl _, h1, h2, fun j hj => ?_⟩
  obtain ⟨a, b, c⟩ := piece_ok h5 hj
  exact ⟨by rw [nthB_packK _ _ _ _ _ hj, Int.zero_add], a, b, c⟩
theorem scan_one {e : Int} {L : List Tx} (h : packE e 0 L = 0) : scanN (packL e 0 L) e = parts L ∧ textK (packL e 0 L) e (parts L) = L := by
  have hl := laid_one h
  have hlen : (packL e 0 L).length = parts L := by rw [(pack_yes h).2.2.2.2.2, packK_length]
  have := hl.scan (fun h => by omega)
  refine ⟨this.1, ?_⟩
  rw [this.2, List.take_of_length_le (show (pieces L).length ≤ parts L from Nat.le_refl _), pieces_flat]
/-- Two logs, one behind the other. -/
theorem scan_two {e : Int} {L M : List Tx} (h : packE e 0 L = 0) (h' : packE e (parts L : Int) M = 0) :
    scanN (packL e 0 L ++ packL e (parts L : Int) M) e = parts L + parts M ∧ textK (packL e 0 L ++ packL e (parts L : Int) M) e (parts L + parts M) = L ++ M := by
  obtain ⟨h1, h2, _, h4, h5, h6⟩ := pack_yes h
  obtain ⟨_, _, _, k4, k5, k6⟩ := pack_yes h'
  have lx : (packL e 0 L).length = parts L := by rw [h6, packK_length]
  have ly : (packL e (parts L : Int) M).length = parts M := by rw [k6, packK_length]
  have hk : laidK (packL e 0 L ++ packL e (parts L : Int) M) e (pieces L ++ pieces M) (parts L + parts M) := by
    refine ⟨by rw [List.length_append, lx, ly]; exact Nat.le_refl _, by omega, by rw [List.length_append]; exact Nat.le_refl _, h1, h2, fun j hj => ?_⟩
    rw [nthB_app, lx, getD_app, show (pieces L).length = parts L from rfl]
    by_cases hp : j < parts L
    · rw [if_pos hp, if_pos hp]
      exact (laid_one h).2.2.2.2.2 j hp
    · rw [if_neg hp, if_neg hp, k6, nthB_packK _ _ _ _ _ (by omega)]
      obtain ⟨a, b, c⟩ := piece_ok k5 (j := j - parts L) (by omega)
      exact ⟨by rw [show (parts L : Int) + ((j - parts L : Nat) : Int) = (j : Int) by omega], a, b, c⟩
  have := hk.scan (fun h => by rw [List.length_append, lx, ly] at h; omega)
  refine ⟨this.1, ?_⟩
  rw [this.2, List.take_of_length_le (by rw [List.length_append]; exact Nat.le_refl _), List.flatten_append, pieces_flat, pieces_flat]
theorem read_far {n : Int} {l : List Tx} {a a' : Nat} (hn : 1 ≤ n ∧ n ≤ 1099511627776) (ha : a' < 256) (hne : a ≠ a') : (readS (layB (secN n (a' : Int)) l) n (a : Int)).2 = false := by
  rw [readS_no fun hok m hm => ?_]
  have h1 := layB_take (secN n (a : Int)) m
  rw [hm.2.2.2, layB_take] at h1
  have h2 := congrArg val8 h1
  have e1 := secN_lt hok
  obtain ⟨k1, k2, k3, k4⟩ := hok
  rw [val8_be8 _ e1, val8_be8 _ (by unfold secN; omega)] at h2
  unfold secN at h2
  omega
/-- The same log twice. -/
theorem scan_twice {e : Int} {L : List Tx} (h : packE e 0 L = 0) : scanN (packL e 0 L ++ packL e 0 L) e = parts L ∧ textK (packL e 0 L ++ packL e 0 L) e (parts L) = L := by
  obtain ⟨h1, h2, _, h4, h5, h6⟩ := pack_yes h
  have lx : (packL e 0 L).length = parts L := by rw [h6, packK_length]
  have hk : laidK (packL e 0 L ++ packL e 0 L) e (pieces L) (parts L) := by
    obtain ⟨q1, q2, q3, q4, q5, q6⟩ := laid_one h
    refine ⟨by rw [List.length_append]; omega, q2, q3, q4, q5, fun j hj => ?_⟩
    rw [nthB_app, lx, if_pos hj]
    exact q6 j hj
  have := hk.scan (fun hl => by
    rw [List.length_append, lx] at hl
    have hp : 0 < parts L := by omega
    rw [nthB_app, lx, if_neg (by omega), Nat.sub_self, h6, nthB_packK _ _ _ _ _ hp]
    exact read_far (a := parts L) (a' := 0) ⟨h1, h2⟩ (by omega) (by omega))
  refine ⟨this.1, ?_⟩
  rw [this.2, List.take_of_length_le (show (pieces L).length ≤ parts L from Nat.le_refl _), pieces_flat]
end Go.Proofs.Ytmdhckcoinhfpaa

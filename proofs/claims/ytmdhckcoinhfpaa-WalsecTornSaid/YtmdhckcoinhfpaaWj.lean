/- The walk of Scan. -/
import Derived.Test.YtmdhckcoinhfpaaWh
namespace Go.Proofs.Ytmdhckcoinhfpaa
open Go.RowKit

def nthB (L : List (List UInt8)) (k : Nat) : List UInt8 := L.getD k []
/-- The texts of the first k sectors. -/
noncomputable def textK (L : List (List UInt8)) (e : Int) : Nat → List Tx
  | 0 => []
  | k + 1 => textK L e k ++ (readS (nthB L k) e (k : Int)).1
theorem textK_len (L : List (List UInt8)) (e : Int) : ∀ k, (textK L e k).length ≤ k * 239
  | 0 => Nat.le_refl _
  | k + 1 => by
    have := textK_len L e k
    have := readS_len (nthB L k) e (k : Int)
    rw [textK, List.length_append]
    omega
/-- A log is told up to k. -/
def scanned (L : List (List UInt8)) (e : Int) (k : Nat) : Prop := k ≤ L.length ∧ (∀ j : Nat, j < k → (readS (nthB L j) e (j : Int)).2 = true) ∧ (k < L.length → (readS (nthB L k) e (k : Int)).2 = false)
theorem scanned.unique {L : List (List UInt8)} {e : Int} {k m : Nat} (h : scanned L e k) (h' : scanned L e m) : k = m := by
  rcases Nat.lt_trichotomy k m with h1 | h1 | h1
  · have a := h.2.2 (by have := h'.1; omega)
    rw [h'.2.1 k h1] at a
    cases a
  · exact h1
  · have a := h'.2.2 (by have := h.1; omega)
    rw [h.2.1 m h1] at a
    cases a
theorem scan_ex (L : List (List UInt8)) (e : Int) : ∃ k, scanned L e k := by
  have main : ∀ n, (∃ k, scanned L e k) ∨ (∀ j : Nat, j < min n L.length → (readS (nthB L j) e (j : Int)).2 = true) := by
    intro n
    induction n with
    | zero => right; intro j hj; omega
    | succ n ih =>
      rcases ih with h | h
      · exact .inl h
      · by_cases hn : n < L.length
        · cases hb : (readS (nthB L n) e (n : Int)).2 with
          | false => left; exact ⟨n, by omega, fun j hj => h j (by omega), fun _ => hb⟩
          | true =>
            right
            intro j hj
            rcases Nat.lt_or_ge j n with h1 | h1
            · exact h j (by omega)
            · obtain rfl : j = n := by omega
              exact hb
        · right; intro j hj; exact h j (by omega)
  rcases main L.length with h | h
  · exact h
  · exact ⟨L.length, Nat.le_refl _, fun j hj => h j (by omega), fun h => by omega⟩
noncomputable def scanN (L : List (List UInt8)) (e : Int) : Nat := Classical.choose (scan_ex L e)
theorem scanN_spec (L : List (List UInt8)) (e : Int) : scanned L e (scanN L e) := Classical.choose_spec (scan_ex L e)
theorem scanN_eq {L : List (List UInt8)} {e : Int} {k : Nat} (h : scanned L e k) : scanN L e = k := (scanN_spec L e).unique h
def ScanPost (L : List (List UInt8)) (e : Int) (w : World) (en : Ending) (w' : World) : Prop :=
  ∃ A n c, en = .returned (.tuple #[.slice A n c, .int .i64 (scanN L e : Nat)]) ∧ Rs w' A n (textK L e (scanN L e)) ∧ n ≤ c ∧ Below w.heap.size w w'
theorem scan_at {L : List (List UInt8)} {e : Int} {k : Nat} {w w' : World} {A : Option Addr} {n c : Nat} (h : scanned L e k) (hr : Rs w' A n (textK L e k)) (hc : n ≤ c) (hb : Below w.heap.size w w') : ScanPost L e w (.returned (.tuple #[.slice A n c, .int .i64 (k : Nat)])) w' := by
  have := scanN_eq h
  exact ⟨A, n, c, by rw [this], by rw [this]; exact hr, hc, hb⟩
set_option maxRecDepth 4000 in
set_option maxHeartbeats 8000000 in
theorem scan_any (e : Int) (A : Option Addr) (n c : Nat) (L : List (List UInt8)) (w : World) (hn : n ≤ 1000) (h : Rbb w A n L) : Calls Try.prog 17 #[.slice A n c, .int .i64 e] w (ScanPost L e w) := by
  have HL := hide h.1
  have H := hide h
  clear h
  go_enter Try.func17, Try.ntmps17
  go_wp2_with fail
  go_loopw [6, 7, 8, 9, 10, 13, 18] (fun out _ _ _ _ i _ wr => ∃ (k m c : Nat) (O : Option Addr), k ≤ n ∧ i = .int .i64 k ∧ out = .slice O m c ∧ wr.ownsRow w.heap.size 9 1 (.slice O m c) m (st8 (textK L e k)) ∧ (∀ j : Nat, j < k → (readS (nthB L j) e (j : Int)).2 = true) ∧ Below w.heap.size w wr) (fun _ _ _ _ _ i _ _ => n - (intOf i).toNat)
  case atStart => exact ⟨0, 0, 0, none, Nat.zero_le _, rfl, rfl, World.ownsRow_nil _ _ _ _, fun j hj => absurd hj (by omega), Below.refl _ _⟩
  case round =>
    obtain ⟨k, m, co, O, hk, rfl, rfl, hown, hgood, hbr⟩ := hrel
    have OW := hide hown
    have HG := hide hgood
    have HB := hide hbr
    have hml : m ≤ k * 239 := by
      have e1 := hown.1
      rw [st8_length] at e1
      have := textK_len L e k
      omega
    clear hown hgood
    by_cases hlt : k < n
    · obtain ⟨b, o, Ak, nk, ck, rfl, hb, hck, hrk, hnck, _⟩ := H.out.at_ hlt
      have hcr : wr.cell? ⟨b, o + k, none⟩ = some (.slice Ak nk ck) := (hbr.cell (p := ⟨b, o + k, none⟩) hb).trans hck
      have RD := hide (read_any e (k : Int) Ak nk ck (nthB L k) wr hnck (Rb.below hrk hbr))
      unfold ReadPost at RD
      have ET := hide (show textK L e (k + 1) = textK L e k ++ (readS (nthB L k) e (k : Int)).1 from rfl)
      have HR := hide (rfl : (readS (nthB L k) e (k : Int)).2 = (readS (nthB L k) e (k : Int)).2)
      obtain ⟨T, hT⟩ : ∃ T, (readS (nthB L k) e (k : Int)).1 = T := ⟨_, rfl⟩
      obtain ⟨q, hq⟩ : ∃ q, (readS (nthB L k) e (k : Int)).2 = q := ⟨_, rfl⟩
      rw [hT, hq] at RD
      rw [hT] at ET
      have HQ := hide hq
      have hk63 := hide (show k * 239 + 239 ≤ maxLen by unfold maxLen; omega)
      have hkb := hide (show (k * 239 + 239) * 16 ≤ 140737488355328 by omega)
      have HML := hide hml
      clear hbr hck hrk hT hq HR hml
      cases q
      · go_wp2_with (go_at_call 14; refine RD.out.mono ?_; rintro r w3 ⟨A3, n3, c3, rfl, hr3, hn3, hc3, hb3⟩)
        go_ret2
        exact scan_at ⟨by rw [HL.out]; omega, HG.out, fun _ => HQ.out⟩ ((Rs.of_own OW.out).below hb3) (own_cap OW.out).1 (Below.then_ HB.out hb3)
      · have HG2 := hide (show ∀ j : Nat, j < k + 1 → (readS (nthB L j) e (j : Int)).2 = true from fun j hj => by
          rcases Nat.lt_or_ge j k with h1 | h1
          · exact HG.out j h1
          · obtain rfl : j = k := by omega
            exact HQ.out)
        go_wp2_with (first
          | (go_at_call 14; refine RD.out.mono ?_; rintro r w3 ⟨A3, n3, c3, rfl, hr3, hn3, hc3, hb3⟩
             have R3 := hide hr3
             have HN3 := hide hn3
             have HB3 := hide hb3
             clear hr3 hn3 hb3)
          | ((with_reducible show wpList _ _ _ (⟨some 31, _, _, _, _, _⟩ :: _) _ _)
             have N1 := own_below OW.out HB3.out
             refine wpList_app rfl (.tmp 29) (.tmp 30) 22 rfl w.heap.size 9 (.string ⟨#[]⟩) 1 16 Try.underlying22 info9 rfl (by omega) _ _ m (st8 (textK L e k)) rfl N1 _ n3 _ (st8 T) rfl R3.out (st8_one _) (by have := HML.out; have := HN3.out; have := hk63.out; omega) (by have := HML.out; have := HN3.out; have := hkb.out; omega) (Below.then_ HB.out HB3.out).size ?_
             intro A6 c6 w6 hown hgr hz
             clear hz
             have HB6 := hide ((Below.then_ HB.out HB3.out).grown hgr (Below.then_ HB.out HB3.out).size (fun j hj => (own_lt N1 j hj).1))
             rw [← st8_append, ← ET.out] at hown
             have O6 := hide hown
             clear hown hgr N1))
        go_roundw
        case rel => exact ⟨k + 1, m + n3, c6, A6, by omega, by go_num, rfl, O6.out, HG2.out, HB6.out⟩
        case measure => simp [intOf]; omega
    · obtain rfl : k = n := by omega
      go_wp2_with fail
      go_ret2
      exact scan_at ⟨by rw [HL.out]; omega, HG.out, fun h => by rw [HL.out] at h; omega⟩ (Rs.of_own OW.out) (own_cap OW.out).1 HB.out
end Go.Proofs.Ytmdhckcoinhfpaa

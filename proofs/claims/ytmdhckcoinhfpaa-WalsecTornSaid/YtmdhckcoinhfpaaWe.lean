/- The walk of the reference's lay. -/
import Derived.Test.YtmdhckcoinhfpaaWb
import Derived.Test.YtmdhckcoinhfpaaWd
namespace Go.Proofs.Ytmdhckcoinhfpaa
open Go.RowKit

def RLayPost (n : Nat) (L : List Tx) (w : World) (e : Ending) (w' : World) : Prop :=
  ∃ A c, e = .returned (.slice A 256 c) ∧ w'.ownsRow w.heap.size 5 1 (.slice A 256 c) 256 (by8 (layB n L)) ∧ Below w.heap.size w w'
set_option maxRecDepth 4000 in
set_option maxHeartbeats 16000000 in
theorem rlay_any (e a : Int) (hok : secOk e a) (A : Option Addr) (m c : Nat) (L : List Tx) (w : World) (hm : m ≤ 1000) (h : Rs w A m L) (hs : ∀ s ∈ L, s.length ≤ 238) (hc : costs L ≤ 239) :
    Calls Try.prog 24 #[.int .i64 e, .int .i64 a, .slice A m c] w (RLayPost (secN e a) L w) := by
  have ST := hide (stamp_any e a hok)
  unfold EightPost at ST
  have H := hide h
  have HS := hide hs
  have HC := hide hc
  have HL := hide h.len
  have hbl := body_length L hs
  obtain ⟨N, hN⟩ : ∃ N, secN e a = N := ⟨_, rfl⟩
  rw [hN] at ST ⊢
  clear hN h hs hok
  go_enter Try.func24, Try.ntmps24
  go_wp2_with fail
  go_loopw [7, 8] (fun p i wr => ∃ (j n : Nat) (A : Option Addr) (c : Nat), j ≤ m ∧ i = .int .i64 j ∧ n = (body (L.take j)).length ∧ p = .slice A n c ∧ wr.ownsRow w.heap.size 5 1 (.slice A n c) n (by8 (body (L.take j))) ∧ Below w.heap.size w wr) (fun _ i _ => m - (intOf i).toNat)
  case atStart => exact ⟨0, 0, none, 0, Nat.zero_le _, rfl, rfl, rfl, World.ownsRow_nil _ _ _ _, Below.refl _ _⟩
  case round =>
    obtain ⟨j, n, Ap, cp, hj, rfl, hn, rfl, hown, hbr⟩ := hrel
    have HN := hide hn
    have O := hide hown
    have HB := hide hbr
    clear hn hown
    by_cases hlt : j < m
    · obtain ⟨b, o, s, rfl, hb, hcell, hse, hsz⟩ := H.out.cell_ hlt
      have hcr : wr.cell? ⟨b, o + j, none⟩ = some (.string s) := (hbr.cell (p := ⟨b, o + j, none⟩) hb).trans hcell
      have hlen := body_take_le L HS.out HC.out j (by rw [HL.out]; exact hlt)
      have ET := take_succT L j (by rw [HL.out]; exact hlt)
      obtain ⟨t, ht⟩ : ∃ t, nthT L j = t := ⟨_, rfl⟩
      rw [ht] at hlen hsz ET hse
      have HBN := hide (show body (L.take (j + 1)) = body (L.take j) ++ [UInt8.ofNat t.length] ++ t by rw [ET, body_app, body_one, List.append_assoc]; rfl)
      rw [← HN.out] at hlen
      have hs1 : n + 1 + s.size ≤ 239 := by omega
      have EV := hide (show (Value.int IntKind.u8 (s.size : Int)) = .int .u8 ((UInt8.ofNat t.length).toNat : Int) by rw [← hsz]; simp; omega)
      have HSE := hide (show s.data.toList = t by rw [hse])
      have hbw := hide (Nat.lt_of_lt_of_le hb hbr.size)
      have hj0 : (0 : Int) ≤ (j : Int) := by omega
      have hj1 : (j : Int) < (m : Int) := by omega
      have HSZ := hide hsz
      have HCE := hide hcell
      clear hse hsz hlen ET ht hcell hbr hbl hc
      go_wp2_with fail
      have N1 := hide (show Rd (wr.alloc (.cells #[.int .u8 (s.size : Int)] 5)).drew (some ⟨wr.heap.size, 0, none⟩) 1 1 (by8 [UInt8.ofNat t.length]) by rw [EV.out]; exact (Vk.new wr 5 (by8 [UInt8.ofNat t.length])).rd 1 1 rfl)
      have N2 := hide (show w.heap.size ≤ (wr.alloc (.cells #[.int .u8 (s.size : Int)] 5)).drew.heap.size by have := HB.out.size; simp; omega)
      have N3 := hide (show Below w.heap.size w (wr.alloc (.cells #[.int .u8 (s.size : Int)] 5)).drew from (Below.al HB.out _).drew)
      have hwr : IntKind.u8.wrap (s.size : Int) = (s.size : Int) := IntWalk.u8_in _ (by omega)
      go_region_held3 (fun z => z.cell? ⟨b, o + j, none⟩ = some (.string s)) (first | go_keep | exact (HB3.out.cell (p := ⟨b, o + j, none⟩) hb).trans HCE.out | exact (HB2.out.cell (p := ⟨b, o + j, none⟩) hb).trans HCE.out)
        (first
          | (refine step_app rfl (.tmp 16) (.tmp 23) 34 rfl w.heap.size 5 (.int .u8 0) 1 1 Try.underlying34 info5 rfl (by omega) Ap cp n (by8 (body (L.take j))) rfl ?_ _ 1 1 (by8 [UInt8.ofNat t.length]) rfl ?_ (by8_one _) ?_ ?_ ?_ ?_
             · exact O.out.alloc _
             · exact N1.out
             · unfold maxLen; omega
             · omega
             · exact N2.out
             intro A2 c2 w2 hown hgr hz
             clear hz
             have HB2 := hide (N3.out.grown hgr N2.out (fun q hq => (own_lt (O.out.alloc (.cells #[.int .u8 (s.size : Int)] 5)) q hq).1))
             rw [← by8_append] at hown
             have O2 := hide hown
             clear hown hgr)
          | (refine step_app_str rfl (.tmp 24) (.tmp 28) 34 9 rfl w.heap.size 5 (.int .u8 0) 1 Try.underlying34 Try.underlying9 info5 rfl A2 c2 (n + 1) (by8 (body (L.take j) ++ [UInt8.ofNat t.length])) rfl ?_ s rfl ?_ ?_ ?_ ?_
             · exact O2.out
             · unfold maxLen; omega
             · omega
             · exact HB2.out.size
             intro A3 c3 w3 hown hgr hz
             clear hz
             have HB3 := hide (HB2.out.grown hgr HB2.out.size (fun q hq => (own_lt O2.out q hq).1))
             rw [HSE.out, ← by8_append, ← HBN.out] at hown
             have O3 := hide hown
             clear hown hgr))
      clear hwr
      go_wp2_with fail
      go_roundw
      case rel => exact ⟨j + 1, n + 1 + s.size, A3, c3, by omega, by go_num, by rw [HBN.out, List.length_append, List.length_append, ← HN.out, HSZ.out]; rfl, rfl, O3.out, HB3.out⟩
      case measure => simp [intOf]; omega
    · obtain rfl : j = m := by omega
      have ET : L.take j = L := List.take_of_length_le (by rw [HL.out]; exact Nat.le_refl _)
      rw [ET] at O HN
      have hn239 : n ≤ 239 := by have := HN.out; omega
      have E5 := hide (show (Value.int IntKind.u8 (n : Int)) = .int .u8 ((UInt8.ofNat (body L).length).toNat : Int) by rw [← HN.out]; simp; omega)
      have HBR := hide hbr
      have h9 := hide (show n + (239 - n) = 239 by omega)
      have hy : (239 : Int) - (n : Int) = ((239 - n : Nat) : Int) := by omega
      have HY := hide hy
      clear hbr hbl hc hy
      go_wp2_with (first
        | (go_at_call 27
           first
             | (have tok := O4; refine (ST.out _).mono ?_; rintro e w7 ⟨A7, c7, rfl, ho7, hb7⟩; have O7 := hide ho7; have O47 := hide (own_below O4.out hb7); have HB7 := hide (Below.then_ HB4.out hb7); have HW7 := hide (Below.then_ HW4.out hb7); clear ho7 hb7 tok)
             | (refine (ST.out _).mono ?_; rintro e w1 ⟨A1, c1, rfl, ho1, hb1⟩; have O1 := hide ho1; have HB1 := hide (Below.then_ HB.out hb1); have HW1 := hide hb1; clear ho1 hb1))
        | ((with_reducible show wpList _ _ _ (⟨some 37, _, _, _, _, _⟩ :: _) _ _)
           refine wpList_app rfl (.tmp 32) (.tmp 36) 34 rfl wr.heap.size 5 (.int .u8 0) 1 1 Try.underlying34 info5 rfl (by omega) _ _ 8 (by8 (be8 N)) rfl (O1.out.alloc _) _ 1 1 (by8 [UInt8.ofNat (body L).length]) rfl (by rw [E5.out]; exact (Vk.new w1 5 (by8 [UInt8.ofNat (body L).length])).rd 1 1 rfl) (by8_one _) (by unfold maxLen; omega) (by omega) (by have := HW1.out.size; simp; omega) ?_
           intro A2 c2 w2 hown hgr hz
           clear hz
           have HB2 := hide ((Below.al HB1.out _).grown hgr (by have := HB1.out.size; simp; omega) (fun q hq => Nat.le_trans HB.out.size (own_lt (O1.out.alloc (.cells #[.int .u8 (n : Int)] 5)) q hq).1))
           have HW2 := hide ((Below.al HW1.out _).grown hgr (by have := HW1.out.size; simp; omega) (fun q hq => (own_lt (O1.out.alloc (.cells #[.int .u8 (n : Int)] 5)) q hq).1))
           rw [← by8_append] at hown
           have O2 := hide hown
           clear hown hgr)
        | ((with_reducible show wpList _ _ _ (⟨some 40, _, _, _, _, _⟩ :: _) _ _)
           refine wpList_app rfl (.tmp 38) (.tmp 39) 34 rfl wr.heap.size 5 (.int .u8 0) 1 1 Try.underlying34 info5 rfl (by omega) _ _ (8 + 1) _ rfl O2.out _ n _ (by8 (body L)) rfl (Rd.of_own (own_below O.out HW2.out)) (by8_one _) (by unfold maxLen; omega) (by omega) HW2.out.size ?_
           intro A3 c3 w3 hown hgr hz
           clear hz
           have HB3 := hide (HB2.out.grown hgr HB2.out.size (fun q hq => Nat.le_trans HB.out.size (own_lt O2.out q hq).1))
           have HW3 := hide (HW2.out.grown hgr HW2.out.size (fun q hq => (own_lt O2.out q hq).1))
           rw [← by8_append] at hown
           have O3 := hide hown
           clear hown hgr)
        | ((with_reducible show wpList _ _ _ (⟨some 45, _, _, _, _, _⟩ :: _) _ _)
           refine wpList_app_zeros rfl (.tmp 41) (.tmp 44) 34 3 rfl wr.heap.size 5 .i64 (.int .u8 0) 1 Try.underlying34 Try.underlying3 info5 rfl rfl _ _ (8 + 1 + n) _ rfl O3.out _ (239 - n) rfl HY.out (by unfold maxLen; omega) (by omega) HW3.out.size ?_
           intro A4 c4 w4 hown hgr hz
           clear hz
           have HB4 := hide (HB3.out.grown hgr HB3.out.size (fun q hq => Nat.le_trans HB.out.size (own_lt O3.out q hq).1))
           have HW4 := hide (HW3.out.grown hgr HW3.out.size (fun q hq => (own_lt O3.out q hq).1))
           rw [zeros_by8, ← by8_append, show 8 + 1 + n + (239 - n) = 248 by omega] at hown
           rw [show 8 + 1 + n + (239 - n) = 248 by omega]
           have O4 := hide hown
           clear hown hgr)
        | ((with_reducible show wpList _ _ _ (⟨some 50, _, _, _, _, _⟩ :: _) _ _)
           refine wpList_app rfl (.tmp 46) (.tmp 49) 34 rfl wr.heap.size 5 (.int .u8 0) 1 1 Try.underlying34 info5 rfl (by omega) _ _ 248 _ rfl O47.out _ 8 _ (by8 (be8 N)) rfl (Rd.of_own O7.out) (by8_one _) (by unfold maxLen; omega) (by omega) HW7.out.size ?_
           intro A8 c8 w8 hown hgr hz
           clear hz
           have HB8 := hide (HB7.out.grown hgr HB7.out.size (fun q hq => Nat.le_trans HB.out.size (own_lt O47.out q hq).1))
           rw [← by8_append] at hown
           have O8 := hide hown
           clear hown hgr))
      go_ret
      refine ⟨A8, c8, rfl, ?_, HB8.out⟩
      have := own_mono O8.out HB.out.size
      rw [HN.out] at this
      exact this
end Go.Proofs.Ytmdhckcoinhfpaa

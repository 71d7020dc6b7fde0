/- The walk of the reference's Get. -/
import Derived.Test.YtelhjficggoliaaWh
namespace Go.Proofs.Ytelhjficggoliaa
open Go.RowKit

set_option maxHeartbeats 1000000 in
theorem rget_len (A : Option Addr) (n c : Nat) (L : List (List UInt8)) (w : World) (hl : L.length = n) (hn : n ≠ 4) : Calls Try.prog 13 #[.slice A n c] w (GetPost L w) := by
  have HE := hide (getE_len (L := L) (by omega))
  have hd : ((n : Int) != 4) = true := by rw [bne_iff_ne]; omega
  go_enter Try.func13, Try.ntmps13
  go_wp2_with fail
  go_ret3
  exact get_no HE.out (by decide) (Below.refl _ _)

set_option maxRecDepth 4000 in
set_option maxHeartbeats 8000000 in
theorem rget_four (b o c : Nat) (L : List (List UInt8)) (w : World) (h : Rbb w (some ⟨b, o, none⟩) 4 L) : Calls Try.prog 13 #[.slice (some ⟨b, o, none⟩) 4 c] w (GetPost L w) := by
  have hL := hide h.1
  have hb := h.lt_ (by omega)
  obtain ⟨A0, n0, c0, hc0, hr0, hnc0⟩ := h.cell_ (k := 0) (by omega)
  rw [Nat.add_zero] at hc0
  have H := hide h
  have R0 := hide hr0
  clear h hr0
  obtain ⟨G, hG⟩ : ∃ G, stampN (nth L 0) = G := ⟨_, rfl⟩
  have HG := hide hG
  clear hG
  go_enter Try.func13, Try.ntmps13
  go_wp2_with (first
    | (go_at_call 15
       refine (rstamp_any _ _ _ (nth L 0) _ hnc0 R0.out).mono ?_
       rintro e w1 ⟨rfl, hb1⟩
       rw [HG.out]))
  go_loopw [7, 8, 9, 10] (fun a i _ _ wr => ∃ (k N : Nat) (A7 : Option Addr) (c7 : Nat), k ≤ 4 ∧ N = k * 239 ∧ i = .int .i64 k ∧ a = .slice A7 N c7 ∧ wr.ownsRow w.heap.size 5 1 (.slice A7 N c7) N (by8 (parts L k)) ∧ okK L k ∧ Below w.heap.size w wr) (fun _ i _ _ _ => 4 - (intOf i).toNat)
  case atStart => exact ⟨0, 0, none, 0, Nat.zero_le _, rfl, rfl, rfl, World.ownsRow_nil _ _ _ _, fun j hj => absurd hj (by omega), hb1⟩
  case round =>
    obtain ⟨k, N, A7, c7, hk, hN, rfl, rfl, hown, hok, hbr⟩ := hrel
    have HNk := hide hN
    have hN9 : N ≤ 956 := by omega
    clear hN
    have O := hide hown
    have OK := hide hok
    clear hown hok
    by_cases hlt : k < 4
    · obtain ⟨Ak, nk, ck, hck, hrk, hnck⟩ := H.out.cell_ hlt
      have hcr : wr.cell? ⟨b, o + k, none⟩ = some (.slice Ak nk ck) := (hbr.cell (p := ⟨b, o + k, none⟩) hb).trans hck
      have hbl : b < wr.heap.size := Nat.lt_of_lt_of_le hb hbr.size
      have RK := hide (hrk.below hbr)
      have hlk := hide hrk.len
      have St := hide (rstamp_any Ak nk ck (nth L k) wr hnck RK.out)
      unfold StampPost at St
      obtain ⟨B, hB⟩ : ∃ B, stampB (nth L k) = B := ⟨_, rfl⟩
      obtain ⟨S, hS⟩ : ∃ S, stampN (nth L k) = S := ⟨_, rfl⟩
      rw [hB, hS] at St
      have HB := hide hB
      have HS := hide hS
      clear hck hrk hB hS
      cases B
      · have HE := hide (getE_cut hL.out k hlt (fun h => by rw [HB.out] at h; exact absurd h.1 (by decide)))
        go_wp2_with (go_at_call 15; refine St.out.mono ?_; rintro e w3 ⟨rfl, hb3⟩)
        go_ret3
        exact get_no HE.out (by decide) (Below.then_ hbr hb3)
      · by_cases hsg : S = G
        · have OK1 := hide (show okK L (k + 1) from fun j hj => by
            rcases Nat.lt_or_ge j k with h1 | h1
            · exact OK.out j h1
            · obtain rfl : j = k := by omega
              exact ⟨HB.out, by rw [HS.out, HG.out, hsg]⟩)
          subst hsg
          have h256 := stampB_len HB.out
          obtain rfl : nk = 256 := by rw [← hlk.out, h256]
          have sl := run_lohi slice22 size5 Ak 256 ck 9 248 9 248 rfl rfl (by omega) (by omega)
          obtain ⟨P, hP⟩ : ∃ P, P = cutA Ak ck 9 := ⟨_, rfl⟩
          obtain ⟨cc, hcc⟩ : ∃ cc, cc = ck - 9 := ⟨_, rfl⟩
          have RP := hide (show Rb wr (cutA Ak ck 9) 239 (((nth L k).drop 9).take 239) from RK.out.lohi_ 9 248 ck (by omega) (by omega) hnck)
          rw [← hP, ← hcc, show 248 - 9 = 239 from rfl] at sl
          rw [← hP] at RP
          clear hP hcc h256
          have HM1 := hide (room239 N hN9)
          have HM2 := hide (size239 N hN9)
          go_wp2_with (first
            | (go_at_call 15; refine St.out.mono ?_; rintro e w3 ⟨rfl, hb3⟩; have hcr3 : w3.cell? ⟨b, o + k, none⟩ = some (.slice Ak 256 ck) := (hb3.cell (p := ⟨b, o + k, none⟩) hbl).trans hcr)
            | ((with_reducible show wpList _ _ _ (⟨some 51, _, _, _, _, _⟩ :: _) _ _)
               have N1 := own_below O.out hb3
               refine wpList_app rfl (.tmp 45) (.tmp 50) 22 rfl w.heap.size 5 (.int .u8 0) 1 1 Try.underlying22 info5 rfl (by omega) _ _ _ _ rfl N1 _ 239 _ (by8 (((nth L k).drop 9).take 239)) rfl (rdb (RP.out.below hb3)) (by8_one _) HM1.out HM2.out (Below.then_ hbr hb3).size ?_
               intro A4 c4 w4 hown hgr hz
               clear hz
               have hb4 : Below w.heap.size w w4 := (Below.then_ hbr hb3).grown hgr (Below.then_ hbr hb3).size (fun j hj => (own_lt N1 j hj).1)
               rw [← by8_append] at hown
               have O4 := hide hown
               clear hown hgr N1))
          go_roundw
          case rel => exact ⟨k + 1, N + 239, A4, c4, by omega, by rw [HNk.out]; omega, by go_num, rfl, O4.out, OK1.out, hb4⟩
          case measure => simp [intOf]; omega
        · have HE := hide (getE_cut hL.out k hlt (fun h => by rw [HS.out, HG.out] at h; exact hsg h.2))
          have hd : ((S : Int) != (G : Int)) = true := by rw [bne_iff_ne]; omega
          go_wp2_with (go_at_call 15; refine St.out.mono ?_; rintro e w3 ⟨rfl, hb3⟩)
          go_ret3
          exact get_no HE.out (by decide) (Below.then_ hbr hb3)
    · obtain rfl : k = 4 := by omega
      obtain rfl : N = 956 := HNk.out
      clear HNk hN9 hlt hk
      obtain ⟨g, cap, ev, _, hgl⟩ := O.out.form (by omega)
      injection ev with e1 e2 e3
      subst e1; subst e3
      have hcap := (own_cap O.out).1
      have RA := hide (Rb.of_own O.out)
      obtain ⟨x0, hx0⟩ : ∃ x0, x0 = (parts L 4).getD 0 0 := ⟨_, rfl⟩
      obtain ⟨x1, hx1⟩ : ∃ x1, x1 = (parts L 4).getD 1 0 := ⟨_, rfl⟩
      have a0 : wr.cell? ⟨g, 0, none⟩ = some (.int .u8 (x0.toNat : Int)) := by rw [hx0]; exact RA.out.cell_ (k := 0) (by omega)
      have a1 : wr.cell? ⟨g, 1, none⟩ = some (.int .u8 (x1.toNat : Int)) := by rw [hx1]; exact RA.out.cell_ (k := 1) (by omega)
      have hor : 256 * (x0.toNat : Int) + (x1.toNat : Int) = ((x0.toNat * 256 + x1.toNat : Nat) : Int) := by omega
      have hN : x0.toNat * 256 + x1.toNat = lenL L := by rw [hx0, hx1]; rfl
      obtain ⟨N, hN2⟩ : ∃ N, N = lenL L := ⟨_, rfl⟩
      rw [hN, ← hN2] at hor
      have HN := hide hN2
      have hy0 := x0.toNat_lt
      have hy1 := x1.toNat_lt
      have hNb : N < 65536 := by rw [hN2, ← hN]; omega
      have HNB := hide hNb
      clear hN hN2 hx0 hx1 hNb
      by_cases hbig : 954 < N
      · have HE := hide (getE_big hL.out OK.out (by rw [← HN.out]; exact hbig))
        go_wp2_with fail
        go_quiet (fail)
        go_wp2_with fail
        go_ret3
        exact get_no HE.out (by decide) (Below.drewN' hbr _)
      · have hsmall : (N : Int) ≤ 954 := by omega
        have hpos := stampB_pos (OK.out 0 (by omega)).1
        rw [HG.out] at hpos
        have HP := hide hpos
        have HBL := hide (bodyL_length OK.out (by rw [← HN.out]; exact hbig))
        have RB := hide (show Rb wr (some ⟨g, 2, none⟩) N (bodyL L) by
          have := RA.out.lohi_ 2 (2 + N) c7 (by omega) (by omega) hcap
          rw [cutA_at g 0 c7 2 (by omega), show 2 + N - 2 = N by omega] at this
          rw [HN.out] at this ⊢
          exact this)
        have sl2 : ∀ w', (Instr.slice 22 (.slice (some ⟨g, 0, none⟩) 956 c7) (some (.int .i64 2)) (some (.int .i64 (2 + (N : Int)))) none).run Try.prog w' = .ok (.slice (some ⟨g, 2, none⟩) N (c7 - 2)) w' := fun w' => by
          have := run_lohi slice22 size5 (some ⟨g, 0, none⟩) 956 c7 2 (2 + N) 2 (2 + (N : Int)) rfl (by omega) (by omega) (by omega) w'
          rwa [cutA_at g 0 c7 2 (by omega), show 2 + N - 2 = N by omega] at this
        have HNS := hide (show N ≤ 1000000 by omega)
        have HNT := hide hbig
        clear hpos hbig
        go_wp2_with fail
        go_quiet (fail)
        go_wp2_with (first
          | ((with_reducible show wpList _ _ _ (⟨some 69, _, _, _, _, _⟩ :: _) _ _)
             refine wpList_app rfl (.tmp 64) (.tmp 68) 22 rfl wr.heap.size 5 (.int .u8 0) 1 1 Try.underlying22 info5 rfl (by omega) _ _ _ _ rfl (nil_own (wr.drewN nq)) _ N _ (by8 (bodyL L)) rfl (Rb.alloc (RB.out.drewN nq) _) (by8_one _) (by unfold maxLen; have := HNS.out; omega) (by have := HNS.out; omega) (by simp) ?_
             intro A3 c3 w3 hown hgr hz
             clear hz
             have hbs3 : Below w.heap.size w w3 := (Below.al (Below.drewN' hbr nq) _).grown hgr (by simp; have := hbr.size; omega) (fun j hj => Nat.le_trans hbr.size (own_lt (nil_own (wr.drewN nq)) j hj).1)
             rw [Nat.zero_add, show by8 [] ++ by8 (bodyL L) = by8 (bodyL L) from rfl] at hown
             have R3 := hide (Rb.of_own hown)
             rw [Nat.zero_add]
             clear hown hgr)
          | (go_at_call 9
             refine (rput_any (G : Nat) _ _ _ (bodyL L) _ R3.out).mono ?_
             intro e w5 hp
             obtain ⟨b5, o5, c5, rfl, hb5l, _, hrr, hb5⟩ := laid_of HP.out.1 HP.out.2 (by rw [HBL.out, ← HN.out]; have := HNT.out; omega) hp
             have RR := hide hrr
             have HL5 := hide (H.out.below (Below.then_ hbs3 hb5))
             have hb5' : b < w5.heap.size := Nat.lt_of_lt_of_le hb (Below.then_ hbs3 hb5).size
             have hbs5 := Below.then_ hbs3 hb5
             have R5 := hide (R3.out.below hb5)
             clear hp hrr))
        go_loopw [15] (fun i wz => ∃ k q : Nat, k ≤ 4 ∧ i = .int .i64 k ∧ wz = w5.drewN q ∧ ∀ j, j < k → nth (secs G (bodyL L) 4) j = nth L j) (fun i _ => 4 - (intOf i).toNat)
        case atStart => exact ⟨0, 0, Nat.zero_le _, rfl, rfl, fun j hj => absurd hj (by omega)⟩
        case round =>
          obtain ⟨k, q, hk, rfl, rfl, heq⟩ := hrel
          have HQ := hide heq
          clear heq
          by_cases hlt : k < 4
          · obtain ⟨E1, m1, d1, q1, p1, _⟩ := RR.out.cell_ hlt
            obtain ⟨E2, m2, d2, q2, p2, _⟩ := HL5.out.cell_ hlt
            obtain ⟨l1, hl1⟩ : ∃ l1, nth (secs G (bodyL L) 4) k = l1 := ⟨_, rfl⟩
            obtain ⟨l2, hl2⟩ : ∃ l2, nth L k = l2 := ⟨_, rfl⟩
            rw [hl1] at p1
            rw [hl2] at p2
            have k1 := fun nq => conv_bytes (P := Try.prog) 22 5 9 Try.underlying22 Try.underlying5 Try.underlying9 d1 (show Rb (w5.drewN nq) _ _ _ from p1)
            have k2 := fun nq => conv_bytes (P := Try.prog) 22 5 9 Try.underlying22 Try.underlying5 Try.underlying9 d2 (show Rb (w5.drewN nq) _ _ _ from p2)
            have HL1 := hide hl1
            have HL2 := hide hl2
            clear p1 p2 hl1 hl2
            by_cases he : l1 = l2
            · have HQ1 := hide (show ∀ j, j < k + 1 → nth (secs G (bodyL L) 4) j = nth L j from fun j hj => by
                rcases Nat.lt_or_ge j k with h1 | h1
                · exact HQ.out j h1
                · obtain rfl : j = k := by omega
                  rw [HL1.out, HL2.out, he])
              have hq : (!(l1 == l2)) = false := by simp [he]
              clear he
              go_wp2_with fail
              go_quiet (fail)
              go_wp2_with fail
              go_roundw
              case rel => exact ⟨k + 1, _, by omega, by go_num, rfl, HQ1.out⟩
              case measure => simp [intOf]; omega
            · have HE := hide (getE_form hL.out OK.out (by rw [← HN.out]; exact HNT.out) (fun h => he (by rw [← HL1.out, ← HL2.out, ← HG.out]; rw [h])))
              have hq : (!(l1 == l2)) = true := by simp [he]
              clear he
              go_wp2_with fail
              go_quiet (fail)
              go_wp2_with fail
              go_ret3
              exact get_no HE.out (by decide) (Below.drewN' (Below.drewN' hbs5 _) _)
          · obtain rfl : k = 4 := by omega
            have HE := hide (getE_yes hL.out OK.out (by rw [← HN.out]; exact HNT.out) (by
              rw [HG.out]
              exact list_ext_getD [] (by rw [secs_length, hL.out]) (fun j hj => HQ.out j (by rw [secs_length] at hj; exact hj))))
            go_wp2_with fail
            go_ret3
            refine ⟨A3, N, c3, ?_, ?_, by have := HNT.out; omega, Below.drewN' hbs5 _⟩
            · unfold getN; rw [HE.out, if_pos rfl, HG.out]; rfl
            · unfold getB; rw [HE.out, if_pos rfl]; exact R5.out

theorem rget_any (A : Option Addr) (n c : Nat) (L : List (List UInt8)) (w : World) (h : Rbb w A n L) : Calls Try.prog 13 #[.slice A n c] w (GetPost L w) := by
  by_cases hn : n = 4
  · subst hn
    obtain ⟨b, o, _, _, _, rfl, _⟩ := h.at_ (i := 0) (by omega)
    exact rget_four b o c L w h
  · exact rget_len A n c L w h.1 hn

end Go.Proofs.Ytelhjficggoliaa

/- The walks of bytes.Clone, bytes.Equal and Get. -/
import Derived.Test.YtelhjficggoliaaGot
import Derived.Laws.Cover3
namespace Go.Proofs.Ytelhjficggoliaa
open Go.RowKit

theorem nil_own (w : World) : (w.alloc (.cells #[] 5)).ownsRow w.heap.size 5 1 (.slice (some ⟨w.heap.size, 0, none⟩) 0 0) 0 (by8 []) :=
  (Vk.new w 5 (by8 [])).own (Nat.le_refl _) rfl (Nat.zero_le _)

set_option maxHeartbeats 1000000 in
theorem clone_any (b o n c : Nat) (l : List UInt8) (w : World) (hn : n ≤ 1000000) (h : Rb w (some ⟨b, o, none⟩) n l) :
    Calls Try.prog 21 #[.slice (some ⟨b, o, none⟩) n c] w fun e w' => ∃ A' c', e = .returned (.slice A' n c') ∧ Rb w' A' n l ∧ Below w.heap.size w w' := by
  have H := hide h
  clear h
  have e0 : ∀ w, (binOp .eql 22 (.slice (some ⟨b, o, none⟩) n c) (.slice none 0 0)).run Try.prog w = .ok (.bool false) w := fun w => by
    simp [binOp, run_equal_slice_nil w 22 5 (some ⟨b, o, none⟩) n c Try.underlying22]
  go_enter Try.func21, Try.ntmps21
  go_wp2_with (first
    | ((with_reducible show wpList _ _ _ (⟨some 7, _, _, _, _, _⟩ :: _) _ _)
       refine wpList_app rfl (.tmp 5) (.tmp 6) 22 rfl w.heap.size 5 (.int .u8 0) 1 1 Try.underlying22 info5 rfl (by omega) _ _ _ _ rfl (nil_own w) _ n _ (by8 l) rfl (Rb.alloc H.out _) (by8_one _) (by unfold maxLen; omega) (by omega) (by simp) ?_
       intro A1 c1 w1 hown hgr hz
       clear hz
       have hb1 : Below w.heap.size w w1 := (Below.al (Below.refl _ _) _).grown hgr (by simp) (fun j hj => (own_lt (nil_own w) j hj).1)
       rw [Nat.zero_add, show by8 [] ++ by8 l = by8 l from rfl] at hown
       have O1 := hide hown
       rw [Nat.zero_add]
       clear hown hgr))
  go_ret
  exact ⟨_, _, rfl, Rb.of_own O1.out, hb1⟩

set_option maxHeartbeats 1000000 in
theorem equal_any (A B : Option Addr) (n c m d : Nat) (l l' : List UInt8) (w : World) (h : Rb w A n l) (h' : Rb w B m l') :
    Calls Try.prog 22 #[.slice A n c, .slice B m d] w fun e w' => e = .returned (.bool (l == l')) ∧ w = w' := by
  have k1 := conv_bytes (P := Try.prog) 22 5 9 Try.underlying22 Try.underlying5 Try.underlying9 c h
  have k2 := conv_bytes (P := Try.prog) 22 5 9 Try.underlying22 Try.underlying5 Try.underlying9 d h'
  obtain ⟨q, hq⟩ : ∃ q, (l == l') = q := ⟨_, rfl⟩
  clear h h'
  rw [hq]
  go_enter Try.func22, Try.ntmps22
  go_wp2_with fail
  go_ret
  exact ⟨rfl, rfl⟩

theorem Rb.cell_ {w : World} {b o n : Nat} {l : List UInt8} (h : Rb w (some ⟨b, o, none⟩) n l) {k : Nat} (hk : k < n) : w.cell? ⟨b, o + k, none⟩ = some (.int .u8 ((l.getD k 0).toNat : Int)) := by
  obtain ⟨b', o', e, _, hc⟩ := h.at_ (by omega)
  injection e with e
  injection e with e1 e2
  subst e1; subst e2
  exact hc k hk
theorem Rbb.cell_ {w : World} {b o n : Nat} {L : List (List UInt8)} (h : Rbb w (some ⟨b, o, none⟩) n L) {k : Nat} (hk : k < n) :
    ∃ Ai ni ci, w.cell? ⟨b, o + k, none⟩ = some (.slice Ai ni ci) ∧ Rb w Ai ni (nth L k) ∧ ni ≤ ci := by
  obtain ⟨b', o', Ai, ni, ci, e, _, hc, hr, h1, _⟩ := h.at_ hk
  injection e with e
  injection e with e1 e2
  subst e1; subst e2
  exact ⟨Ai, ni, ci, hc, hr, h1⟩
theorem Rbb.lt_ {w : World} {b o n : Nat} {L : List (List UInt8)} (h : Rbb w (some ⟨b, o, none⟩) n L) (hn : 0 < n) : b < w.heap.size := by
  obtain ⟨_, _, _, hc, _⟩ := h.cell_ hn
  exact World.block_lt_of_cell? w _ hc
theorem room239 (N : Nat) (h : N ≤ 956) : N + 239 ≤ maxLen := by unfold maxLen; omega
theorem size239 (N : Nat) (h : N ≤ 956) : (N + 239) * 1 ≤ 140737488355328 := by omega
/-- Put, where it lays. -/
def LaidPost (m : Nat) (l : List UInt8) (w : World) (e : Ending) (w' : World) : Prop :=
  ∃ b o c, e = .returned (.tuple #[.slice (some ⟨b, o, none⟩) 4 c, .int .i64 0]) ∧ b < w'.heap.size ∧ 4 ≤ c ∧ Rbb w' (some ⟨b, o, none⟩) 4 (secs m l 4) ∧ Below w.heap.size w w'
theorem laid_of {m : Nat} {l : List UInt8} {w w' : World} {e : Ending} (h1 : 1 ≤ m) (h2 : m ≤ 1099511627776) (hl : l.length ≤ 954) (h : PutPost m l w e w') : LaidPost m l w e w' := by
  obtain ⟨A, n, c, rfl, ho, hb⟩ := h
  obtain ⟨e1, e2⟩ := put_secs h1 h2 hl
  rw [e1]
  rw [e2] at ho
  obtain rfl : n = 4 := by rw [← ho.1, secs_length]
  have hr := ho.rbb
  obtain ⟨b, o, _, _, _, rfl, hlt, _⟩ := hr.at_ (i := 0) (by omega)
  obtain ⟨_, vs, hv, _⟩ := ho
  exact ⟨b, o, c, rfl, hlt, (own_cap hv).1, hr, hb⟩

set_option maxHeartbeats 1000000 in
theorem get_len (A : Option Addr) (n c : Nat) (L : List (List UInt8)) (w : World) (hl : L.length = n) (hn : n ≠ 4) : Calls Try.prog 12 #[.slice A n c] w (GetPost L w) := by
  have HE := hide (getE_len (L := L) (by omega))
  have hd : ((n : Int) != 4) = true := by rw [bne_iff_ne]; omega
  go_enter Try.func12, Try.ntmps12
  go_wp2_with fail
  go_ret3
  exact get_no HE.out (by decide) (Below.refl _ _)

set_option maxRecDepth 4000 in
set_option maxHeartbeats 8000000 in
theorem get_four (b o c : Nat) (L : List (List UInt8)) (w : World) (h : Rbb w (some ⟨b, o, none⟩) 4 L) : Calls Try.prog 12 #[.slice (some ⟨b, o, none⟩) 4 c] w (GetPost L w) := by
  have hL := hide h.1
  have hb := h.lt_ (by omega)
  obtain ⟨A0, n0, c0, hc0, hr0, hnc0⟩ := h.cell_ (k := 0) (by omega)
  rw [Nat.add_zero] at hc0
  have H := hide h
  have R0 := hide hr0
  clear h hr0
  obtain ⟨G, hG⟩ : ∃ G, stampN (nth L 0) = G := ⟨_, rfl⟩
  have HG := hide hG
  clear hG
  go_enter Try.func12, Try.ntmps12
  go_wp2_with (first
    | (go_at_call 14
       refine (stamp_any _ _ _ (nth L 0) _ hnc0 R0.out).mono ?_
       rintro e w1 ⟨rfl, hb1⟩
       rw [HG.out]))
  go_loopw [7, 9, 10, 11, 30] (fun a _ _ _ i wr => ∃ (k N : Nat) (A7 : Option Addr) (c7 : Nat), k ≤ 4 ∧ N = k * 239 ∧ i = .int .i64 k ∧ a = .slice A7 N c7 ∧ wr.ownsRow w.heap.size 5 1 (.slice A7 N c7) N (by8 (parts L k)) ∧ okK L k ∧ Below w.heap.size w wr) (fun _ _ _ _ i _ => 4 - (intOf i).toNat)
  case atStart => exact ⟨0, 0, none, 0, Nat.zero_le _, rfl, rfl, rfl, World.ownsRow_nil _ _ _ _, fun j hj => absurd hj (by omega), hb1⟩
  case round =>
    obtain ⟨k, N, A7, c7, hk, hN, rfl, rfl, hown, hok, hbr⟩ := hrel
    have HNk := hide hN
    have hN9 : N ≤ 956 := by omega
    clear hN
    have O := hide hown
    have OK := hide hok
    clear hown hok
    by_cases hlt : k < 4
    · obtain ⟨Ak, nk, ck, hck, hrk, hnck⟩ := H.out.cell_ hlt
      have hcr : wr.cell? ⟨b, o + k, none⟩ = some (.slice Ak nk ck) := (hbr.cell (p := ⟨b, o + k, none⟩) hb).trans hck
      have RK := hide (hrk.below hbr)
      have hlk := hide hrk.len
      have St := hide (stamp_any Ak nk ck (nth L k) wr hnck RK.out)
      unfold StampPost at St
      obtain ⟨B, hB⟩ : ∃ B, stampB (nth L k) = B := ⟨_, rfl⟩
      obtain ⟨S, hS⟩ : ∃ S, stampN (nth L k) = S := ⟨_, rfl⟩
      rw [hB, hS] at St
      have HB := hide hB
      have HS := hide hS
      clear hck hrk hB hS
      cases B
      · have HE := hide (getE_cut hL.out k hlt (fun h => by rw [HB.out] at h; exact absurd h.1 (by decide)))
        go_wp2_with (go_at_call 14; refine St.out.mono ?_; rintro e w3 ⟨rfl, hb3⟩)
        go_ret3
        exact get_no HE.out (by decide) (Below.then_ hbr hb3)
      · by_cases hsg : S = G
        · have OK1 := hide (show okK L (k + 1) from fun j hj => by
            rcases Nat.lt_or_ge j k with h1 | h1
            · exact OK.out j h1
            · obtain rfl : j = k := by omega
              exact ⟨HB.out, by rw [HS.out, HG.out, hsg]⟩)
          subst hsg
          have h256 := stampB_len HB.out
          obtain rfl : nk = 256 := by rw [← hlk.out, h256]
          have sl := run_lohi slice22 size5 Ak 256 ck 9 248 9 248 rfl rfl (by omega) (by omega)
          obtain ⟨P, hP⟩ : ∃ P, P = cutA Ak ck 9 := ⟨_, rfl⟩
          obtain ⟨cc, hcc⟩ : ∃ cc, cc = ck - 9 := ⟨_, rfl⟩
          have RP := hide (show Rb wr (cutA Ak ck 9) 239 (((nth L k).drop 9).take 239) from RK.out.lohi_ 9 248 ck (by omega) (by omega) hnck)
          rw [← hP, ← hcc, show 248 - 9 = 239 from rfl] at sl
          rw [← hP] at RP
          clear hP hcc h256
          have HM1 := hide (room239 N hN9)
          have HM2 := hide (size239 N hN9)
          go_wp2_with (first
            | (go_at_call 14; refine St.out.mono ?_; rintro e w3 ⟨rfl, hb3⟩)
            | ((with_reducible show wpList _ _ _ (⟨some 49, _, _, _, _, _⟩ :: _) _ _)
               have N1 := own_below O.out hb3
               refine wpList_app rfl (.tmp 46) (.tmp 48) 22 rfl w.heap.size 5 (.int .u8 0) 1 1 Try.underlying22 info5 rfl (by omega) _ _ _ _ rfl N1 _ 239 _ (by8 (((nth L k).drop 9).take 239)) rfl (rdb (RP.out.below hb3)) (by8_one _) HM1.out HM2.out (Below.then_ hbr hb3).size ?_
               intro A4 c4 w4 hown hgr hz
               clear hz
               have hb4 : Below w.heap.size w w4 := (Below.then_ hbr hb3).grown hgr (Below.then_ hbr hb3).size (fun j hj => (own_lt N1 j hj).1)
               rw [← by8_append] at hown
               have O4 := hide hown
               clear hown hgr N1))
          go_roundw
          case rel => exact ⟨k + 1, N + 239, A4, c4, by omega, by rw [HNk.out]; omega, by go_num, rfl, O4.out, OK1.out, hb4⟩
          case measure => simp [intOf]; omega
        · have HE := hide (getE_cut hL.out k hlt (fun h => by rw [HS.out, HG.out] at h; exact hsg h.2))
          have hd : ((S : Int) != (G : Int)) = true := by rw [bne_iff_ne]; omega
          go_wp2_with (go_at_call 14; refine St.out.mono ?_; rintro e w3 ⟨rfl, hb3⟩)
          go_ret3
          exact get_no HE.out (by decide) (Below.then_ hbr hb3)
    · obtain rfl : k = 4 := by omega
      obtain rfl : N = 956 := HNk.out
      clear HNk hN9 hlt hk
      obtain ⟨g, cap, ev, _, hgl⟩ := O.out.form (by omega)
      injection ev with e1 e2 e3
      subst e1; subst e3
      have hcap := (own_cap O.out).1
      have RA := hide (Rb.of_own O.out)
      obtain ⟨x0, hx0⟩ : ∃ x0, x0 = (parts L 4).getD 0 0 := ⟨_, rfl⟩
      obtain ⟨x1, hx1⟩ : ∃ x1, x1 = (parts L 4).getD 1 0 := ⟨_, rfl⟩
      have a0 : wr.cell? ⟨g, 0, none⟩ = some (.int .u8 (x0.toNat : Int)) := by rw [hx0]; exact RA.out.cell_ (k := 0) (by omega)
      have a1 : wr.cell? ⟨g, 1, none⟩ = some (.int .u8 (x1.toNat : Int)) := by rw [hx1]; exact RA.out.cell_ (k := 1) (by omega)
      have hor := or16 x0 x1
      have hN : x0.toNat * 256 + x1.toNat = lenL L := by rw [hx0, hx1]; rfl
      obtain ⟨N, hN2⟩ : ∃ N, N = lenL L := ⟨_, rfl⟩
      rw [hN, ← hN2] at hor
      have HN := hide hN2
      have hy0 := x0.toNat_lt
      have hy1 := x1.toNat_lt
      have hNb : N < 65536 := by rw [hN2, ← hN]; omega
      have HNB := hide hNb
      clear hN hN2 hx0 hx1 hNb
      by_cases hbig : 954 < N
      · have HE := hide (getE_big hL.out OK.out (by rw [← HN.out]; exact hbig))
        go_wp2_with fail
        go_quiet (fail)
        go_wp2_with fail
        go_ret3
        exact get_no HE.out (by decide) (Below.drewN' hbr _)
      · have hsmall : (N : Int) ≤ 954 := by omega
        have hpos := stampB_pos (OK.out 0 (by omega)).1
        rw [HG.out] at hpos
        have HP := hide hpos
        have HBL := hide (bodyL_length OK.out (by rw [← HN.out]; exact hbig))
        have RB := hide (show Rb wr (some ⟨g, 2, none⟩) N (bodyL L) by
          have := RA.out.lohi_ 2 (2 + N) c7 (by omega) (by omega) hcap
          rw [cutA_at g 0 c7 2 (by omega), show 2 + N - 2 = N by omega] at this
          rw [HN.out] at this ⊢
          exact this)
        have HNS := hide (show N ≤ 1000000 by omega)
        have HNT := hide hbig
        clear hpos hbig
        go_wp2_with fail
        go_quiet (fail)
        go_wp2_with (first
          | (go_at_call 21
             refine (clone_any g 2 N _ (bodyL L) _ HNS.out ?_).mono ?_
             · exact RB.out.drewN _
             rintro e w3 ⟨A3, c3, rfl, hr3, hb3⟩
             have R3 := hide hr3
             have hbs3 := Below.then_ (Below.drewN' hbr nq) hb3
             clear hr3)
          | (go_at_call 8
             refine (put_any (G : Nat) _ _ _ (bodyL L) _ R3.out).mono ?_
             intro e w5 hp
             obtain ⟨b5, o5, c5, rfl, hb5l, _, hrr, hb5⟩ := laid_of HP.out.1 HP.out.2 (by rw [HBL.out, ← HN.out]; have := HNT.out; omega) hp
             have RR := hide hrr
             have HL5 := hide (H.out.below (Below.then_ hbs3 hb5))
             have hb5' : b < w5.heap.size := Nat.lt_of_lt_of_le hb (Below.then_ hbs3 hb5).size
             have hbs5 := Below.then_ hbs3 hb5
             have R5 := hide (R3.out.below hb5)
             clear hp hrr))
        go_loop [16, 17, 76] (fun _ _ i => ∃ k : Nat, k ≤ 4 ∧ i = .int .i64 k ∧ ∀ j, j < k → nth (secs G (bodyL L) 4) j = nth L j) (fun _ _ i => 4 - (intOf i).toNat)
        case atStart => exact ⟨0, Nat.zero_le _, rfl, fun j hj => absurd hj (by omega)⟩
        case round =>
          obtain ⟨k, hk, rfl, heq⟩ := hrel
          have HQ := hide heq
          clear heq
          by_cases hlt : k < 4
          · obtain ⟨E1, m1, d1, q1, p1, _⟩ := RR.out.cell_ hlt
            obtain ⟨E2, m2, d2, q2, p2, _⟩ := HL5.out.cell_ hlt
            have P1 := hide p1
            have P2 := hide p2
            clear p1 p2
            by_cases he : nth (secs G (bodyL L) 4) k = nth L k
            · have HQ1 := hide (show ∀ j, j < k + 1 → nth (secs G (bodyL L) 4) j = nth L j from fun j hj => by
                rcases Nat.lt_or_ge j k with h1 | h1
                · exact HQ.out j h1
                · obtain rfl : j = k := by omega
                  exact he)
              have hq := hide (show (nth (secs G (bodyL L) 4) k == nth L k) = true by rw [he]; exact beq_self_eq_true _)
              clear he
              go_wp2_with (go_at_call 22; refine (equal_any _ _ _ _ _ _ _ _ _ P1.out P2.out).mono ?_; rintro e w6 ⟨rfl, rfl⟩; rw [hq.out])
              go_round
              case rel => exact ⟨k + 1, by omega, by go_num, HQ1.out⟩
              case measure => simp [intOf]; omega
            · have HE := hide (getE_form hL.out OK.out (by rw [← HN.out]; exact HNT.out) (fun h => he (by rw [← HG.out] ; rw [h])))
              have hq := hide (show (nth (secs G (bodyL L) 4) k == nth L k) = false from beq_false_of_ne he)
              clear he
              go_wp2_with (go_at_call 22; refine (equal_any _ _ _ _ _ _ _ _ _ P1.out P2.out).mono ?_; rintro e w6 ⟨rfl, rfl⟩; rw [hq.out])
              go_ret3
              exact get_no HE.out (by decide) hbs5
          · obtain rfl : k = 4 := by omega
            have HE := hide (getE_yes hL.out OK.out (by rw [← HN.out]; exact HNT.out) (by
              rw [HG.out]
              exact list_ext_getD [] (by rw [secs_length, hL.out]) (fun j hj => HQ.out j (by rw [secs_length] at hj; exact hj))))
            go_wp2_with fail
            go_ret3
            refine ⟨A3, N, c3, ?_, ?_, by have := HNT.out; omega, hbs5⟩
            · unfold getN; rw [HE.out, if_pos rfl, HG.out]; rfl
            · unfold getB; rw [HE.out, if_pos rfl]; exact R5.out

theorem get_any (A : Option Addr) (n c : Nat) (L : List (List UInt8)) (w : World) (h : Rbb w A n L) : Calls Try.prog 12 #[.slice A n c] w (GetPost L w) := by
  by_cases hn : n = 4
  · subst hn
    obtain ⟨b, o, _, _, _, rfl, _⟩ := h.at_ (i := 0) (by omega)
    exact get_four b o c L w h
  · exact get_len A n c L w h.1 hn

end Go.Proofs.Ytelhjficggoliaa

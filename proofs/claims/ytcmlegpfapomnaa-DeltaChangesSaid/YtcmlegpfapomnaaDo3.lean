/- The walk of the document's Then. -/
import Derived.Test.YtcmlegpfapomnaaPa
import Derived.Test.YtcmlegpfapomnaaDm
import Derived.Deep.RegionHeld3
namespace Go.Proofs.Ytcmlegpfapomnaa
open Go.RowKit Go.Instr
open Go.Op (bytesLess)

theorem anyS_no {f : Sx → Bool} {L : List Sx} {k : Nat} (hk : k < L.length) (h : f (nthS L k) = true) : L.any f = true := by
  rw [List.any_eq_true]
  exact ⟨L[k], List.getElem_mem hk, by have : nthS L k = L[k] := by simp [nthS, List.getD, hk]
                                       rw [← this, h]⟩
theorem anyS_yes {f : Sx → Bool} {L : List Sx} (h : ∀ j, j < L.length → f (nthS L j) = false) : L.any f = false := by
  rw [List.any_eq_false]
  intro x hx
  obtain ⟨j, hj, rfl⟩ := List.getElem_of_mem hx
  have : nthS L j = L[j] := by simp [nthS, List.getD, hj]
  rw [← this, h j hj]
  simp
set_option maxRecDepth 100000 in
set_option maxHeartbeats 32000000 in
theorem rthn_any (A : Option Addr) (n c : Nat) (L : List Ch) (B : Option Addr) (m d : Nat) (M : List Ch) (w : World) (hs : n + m ≤ 500) (hA : Rch w A n L) (hB : Rch w B m M) :
    Calls Try.prog 21 #[.slice A n c, .slice B m d] w fun e w' => ∃ v, e = .returned (.tuple #[v, .int .i64 (rthn L M).2]) ∧ SC w' v (rthn L M).1 ∧ Below w.heap.size w w' := by
  have H := hide hA
  have H2 := hide hB
  have HS := hide hs
  have HL := hide hA.len
  have HM := hide hB.len
  obtain ⟨T, hT⟩ : ∃ T, rthn L M = T := ⟨_, rfl⟩
  rw [hT]
  unfold rthn at hT
  clear hA hB hs
  by_cases h0 : chk L = 0
  case neg =>
    rw [if_pos h0] at hT
    have HT := hide hT
    obtain ⟨C, hC⟩ : ∃ C, chk L = C := ⟨_, rfl⟩
    have K1 := hide hC
    rw [hC] at h0 HT
    clear hT hC
    have dz : (C != 0) = true := by simpa using h0
    have dz2 : (C == 0) = false := by simpa using h0
    clear h0
    go_enter Try.func21, Try.ntmps21
    go_wp2_with (
      go_at_call_of 23 A
      refine (rcheck_any A n c L w (by have := HS.out; omega) H.out).mono ?_
      rintro r w1 ⟨rfl, hb1⟩
      have HB1 := hide hb1
      clear hb1
      rw [K1.out])
    go_ret2
    rw [← HT.out]
    exact ⟨_, rfl, SC.nil _, HB1.out⟩
  rw [if_neg (by rw [h0]; simp)] at hT
  have K1 := hide h0
  clear h0
  by_cases h1 : chk M = 0
  case neg =>
    rw [if_pos h1] at hT
    have HT := hide hT
    obtain ⟨C, hC⟩ : ∃ C, chk M = C := ⟨_, rfl⟩
    have K2 := hide hC
    rw [hC] at h1 HT
    clear hT hC
    have dz : (C != 0) = true := by simpa using h1
    clear h1
    go_enter Try.func21, Try.ntmps21
    go_wp2_with (first
      | (go_at_call_of 23 A
         refine (rcheck_any A n c L w (by have := HS.out; omega) H.out).mono ?_
         rintro r w1 ⟨rfl, hb1⟩
         have HB1 := hide hb1
         clear hb1
         rw [K1.out])
      | (go_at_call_of 23 B
         refine (rcheck_any B m d M w1 (by have := HS.out; omega) (H2.out.below HB1.out)).mono ?_
         rintro r w2 ⟨rfl, hb2⟩
         have HB2 := hide (Below.then_ HB1.out hb2)
         clear hb2
         rw [K2.out]))
    go_ret2
    rw [← HT.out]
    exact ⟨_, rfl, SC.nil _, HB2.out⟩
  rw [if_neg (by rw [h1]; simp)] at hT
  have K2 := hide h1
  clear h1
  obtain ⟨K, hK⟩ : ∃ K, kys (L.map Ch.k) (M.map Ch.k) = K := ⟨_, rfl⟩
  rw [hK] at hT
  have hKl : K.length ≤ 500 := by
    have := kys_len (L.map Ch.k) (M.map Ch.k)
    rw [hK, List.length_map, List.length_map, HL.out, HM.out] at this
    have := HS.out
    omega
  have HK := hide hK
  obtain ⟨R, hR⟩ : ∃ R, K.flatMap (rth L M) = R := ⟨_, rfl⟩
  have HX := hide hR
  rw [hR] at hT
  have HT := hide hT
  clear hK hR hT
  go_enter Try.func21, Try.ntmps21
  go_wp2_with (first
    | (go_at_call_of 23 A
       refine (rcheck_any A n c L w (by have := HS.out; omega) H.out).mono ?_
       rintro r w1 ⟨rfl, hb1⟩
       have HB1 := hide hb1
       clear hb1
       rw [K1.out])
    | (go_at_call_of 23 B
       refine (rcheck_any B m d M w1 (by have := HS.out; omega) (H2.out.below HB1.out)).mono ?_
       rintro r w2 ⟨rfl, hb2⟩
       have HB2 := hide (Below.then_ HB1.out hb2)
       clear hb2
       rw [K2.out])
    | (go_at_call_of 44 A
       refine (ofAll_any A n c L w2 (by have := HS.out; omega) (H.out.below HB2.out)).mono ?_
       rintro r w3 ⟨v, rfl, ⟨A1, n1, c1, rfl, _, hs3⟩, hb3⟩
       have S3 := hide hs3
       have HB3 := hide (Below.then_ HB2.out hb3)
       clear hb3 hs3)
    | (go_at_call_of 44 B
       refine (ofAll_any B m d M w3 (by have := HS.out; omega) (H2.out.below HB3.out)).mono ?_
       rintro r w4 ⟨v, rfl, ⟨B1, m1, d1, rfl, _, hs4⟩, hb4⟩
       have S4 := hide hs4
       have S3 := hide (S3.out.below hb4)
       have HB4 := hide (Below.then_ HB3.out hb4)
       clear hb4 hs4)
    | (go_at_call 42
       refine (keys_any A1 n1 c1 _ B1 m1 d1 _ w4 (by have := HS.out; rw [← S3.out.len, ← S4.out.len, List.length_map, List.length_map, HL.out, HM.out]; exact this) S3.out S4.out).mono ?_
       rintro r w5 ⟨v, rfl, ⟨KA, kn, kc, rfl, _, hs5⟩, hb5⟩
       rw [HK.out] at hs5
       have HB5 := hide (Below.then_ HB4.out hb5)
       have hkn := hs5.len
       subst hkn
       have KS := hide hs5
       have hsz5 := HB5.out.size
       clear hb5 hs5))
  go_loopw [7, 9] (fun s i wr => ∃ (j : Nat) (X : Option Addr) (d' : Nat) (O : List Ch), j ≤ K.length ∧ i = .int .i64 j ∧ s = .slice X O.length d' ∧ wr.ownsRow w5.heap.size 71 5 (.slice X O.length d') O.length (chs O) ∧ O.length ≤ j ∧ O ++ (K.drop j).flatMap (rth L M) = R ∧ (∀ i, i < j → rthBad L M (nthS K i) = false) ∧ Below w5.heap.size w5 wr ∧ Below w.heap.size w wr) (fun _ i _ => K.length - (intOf i).toNat)
  case atStart => exact ⟨0, none, 0, [], Nat.zero_le _, rfl, rfl, World.ownsRow_nil _ _ _ _, Nat.le_refl _, by have := HX.out; simpa using this, fun i hi => absurd hi (by omega), Below.refl _ _, HB5.out⟩
  case round =>
    obtain ⟨j, X, d', O, hj, rfl, rfl, hown, hol, hR, hnb, hb5, hbs⟩ := hrel
    have OW := hide hown
    have HBS := hide hbs
    have H5 := hide hb5
    have HNB := hide hnb
    have hsz := hbs.size
    have hsz6 := hb5.size
    clear hown hnb
    by_cases hlt : j < K.length
    · obtain ⟨b, o, rfl, hb, c0⟩ := KS.out.at_ hlt
      obtain ⟨x, hx⟩ : ∃ x, nthS K j = x := ⟨_, rfl⟩
      rw [hx] at c0
      have CC := hide c0
      have BL := hide hb
      have g0 := (hb5.cell (p := ⟨b, o + j, none⟩) hb).trans c0
      rw [drop_s K j hlt, hx, List.flatMap_cons] at hR
      have CH1 := hide (fun w h => change_any A n c L x w (by have := HS.out; omega) h)
      have CH2 := hide (fun w h => change_any B m d M x w (by have := HS.out; omega) h)
      unfold chgV chV at CH1 CH2
      obtain ⟨C1, hC1⟩ : ∃ C, (chg L x).getD ch0 = C := ⟨_, rfl⟩
      obtain ⟨C2, hC2⟩ : ∃ C, (chg M x).getD ch0 = C := ⟨_, rfl⟩
      obtain ⟨P, hP⟩ : ∃ q, (chg L x).isSome = q := ⟨_, rfl⟩
      obtain ⟨Q, hQ⟩ : ∃ q, (chg M x).isSome = q := ⟨_, rfl⟩
      have eB : rthBad L M (nthS K j) = (P && Q && (!(C1.now == C2.was) || (C1.has != C2.had))) := by rw [hx, rthBad, hC1, hC2, hP, hQ]
      have e1 : rth L M x = if P = true then (if Q = true then (if (C1.was == C2.now && C1.had == C2.has) = true then [] else [⟨x, C1.was, C2.now, C1.had, C2.has⟩]) else [C1]) else [C2] := by rw [rth, hC1, hC2, hP, hQ]
      rw [e1] at hR
      rw [hC1, hP] at CH1
      rw [hC2, hQ] at CH2
      obtain ⟨k1, a1, n1', p1, h1⟩ := C1
      obtain ⟨k2, a2, n2, p2, h2⟩ := C2
      dsimp only at CH1 CH2 hR eB
      obtain ⟨q1, hq1⟩ : ∃ q, (n1' == a2) = q := ⟨_, rfl⟩
      obtain ⟨q2, hq2⟩ : ∃ q, (a1 == n2) = q := ⟨_, rfl⟩
      rw [hq1] at eB
      rw [hq2] at hR
      have KR := hide hR
      have EB := hide eB
      have HNX := hide (show (P && Q && (!q1 || (h1 != p2))) = false → ∀ i, i < j + 1 → rthBad L M (nthS K i) = false from fun hh i hi => by
        rcases Nat.lt_or_ge i j with hi1 | hi1
        · exact HNB.out i hi1
        · obtain rfl : i = j := by omega
          rw [EB.out]; exact hh)
      have kn : (j : Int) < (K.length : Int) := by omega
      have k0 : (0 : Int) ≤ (j : Int) := by omega
      have hKl2 := hKl
      clear hbs hb5 hx hR c0 hb hC1 hC2 hP hQ e1 eB
      cases P
      · go_wp2_with (first
          | (go_at_call_of 45 A
             go_loud (
             refine (CH1.out _ (H.out.below HBS.out)).mono ?_
             rintro r w6 ⟨rfl, hb6⟩
             have HB6 := hide (Below.al (Below.then_ HBS.out hb6) (.cells #[.string ⟨k1.toArray⟩, .string ⟨a1.toArray⟩, .string ⟨n1'.toArray⟩, .bool p1, .bool h1] 71))
             have H56 := hide (Below.al (Below.then_ H5.out hb6) (.cells #[.string ⟨k1.toArray⟩, .string ⟨a1.toArray⟩, .string ⟨n1'.toArray⟩, .bool p1, .bool h1] 71))
             have OW6 := hide ((own_below OW.out hb6).alloc (.cells #[.string ⟨k1.toArray⟩, .string ⟨a1.toArray⟩, .string ⟨n1'.toArray⟩, .bool p1, .bool h1] 71))
             have V1 := hide (Vk.new w6 71 [.string ⟨k1.toArray⟩, .string ⟨a1.toArray⟩, .string ⟨n1'.toArray⟩, .bool p1, .bool h1])
             have hs6 := hb6.size
             have g6 := al_cell ((Below.then_ H5.out hb6).cell (p := ⟨b, o + j, none⟩) BL.out |>.trans CC.out) (.cells #[.string ⟨k1.toArray⟩, .string ⟨a1.toArray⟩, .string ⟨n1'.toArray⟩, .bool p1, .bool h1] 71)
             clear hb6))
          | (go_at_call_of 45 B
             go_loud (
             refine (CH2.out _ (H2.out.below HB6.out)).mono ?_
             rintro r w7 ⟨rfl, hb7⟩
             have HB7 := hide (Below.al (Below.then_ HB6.out hb7) (.cells #[.string ⟨k2.toArray⟩, .string ⟨a2.toArray⟩, .string ⟨n2.toArray⟩, .bool p2, .bool h2] 71))
             have H57 := hide (Below.al (Below.then_ H56.out hb7) (.cells #[.string ⟨k2.toArray⟩, .string ⟨a2.toArray⟩, .string ⟨n2.toArray⟩, .bool p2, .bool h2] 71))
             have OW7 := hide ((own_below OW6.out hb7).alloc (.cells #[.string ⟨k2.toArray⟩, .string ⟨a2.toArray⟩, .string ⟨n2.toArray⟩, .bool p2, .bool h2] 71))
             have V1b := hide ((V1.out.below hb7 V1.out.lt).alloc (.cells #[.string ⟨k2.toArray⟩, .string ⟨a2.toArray⟩, .string ⟨n2.toArray⟩, .bool p2, .bool h2] 71))
             have V2b := hide (Vk.new w7 71 [.string ⟨k2.toArray⟩, .string ⟨a2.toArray⟩, .string ⟨n2.toArray⟩, .bool p2, .bool h2])
             have hs7 : w6.heap.size + 1 ≤ w7.heap.size := by have := hb7.size; simpa using this
             obtain ⟨x0, x1, x2, x3, x4, _⟩ := V1b.out.five
             obtain ⟨y0, y1, y2, y3, y4, _⟩ := V2b.out.five
             have g7 := al_cell ((Below.then_ H56.out hb7).cell (p := ⟨b, o + j, none⟩) BL.out |>.trans CC.out) (.cells #[.string ⟨k2.toArray⟩, .string ⟨a2.toArray⟩, .string ⟨n2.toArray⟩, .bool p2, .bool h2] 71)
             clear hb7))
          | ((with_reducible show wpList _ _ _ (⟨some 55, _, _, _, _, _⟩ :: _) _ _)
             go_loud (
             refine wpList_app rfl (.tmp 52) (.tmp 54) 38 rfl w5.heap.size 71 (chV ch0) 5 56 Try.underlying38 info71 rfl (by omega) X d' O.length (chs O) rfl (OW7.out.alloc _) _ 1 _ (chs [⟨k2, a2, n2, p2, h2⟩]) rfl ((Vk.two_ w7 71 71 [.string ⟨k2.toArray⟩, .string ⟨a2.toArray⟩, .string ⟨n2.toArray⟩, .bool p2, .bool h2] [.string ⟨k2.toArray⟩, .string ⟨a2.toArray⟩, .string ⟨n2.toArray⟩, .bool p2, .bool h2]).rd 5 1 rfl) (chs_one _) (by unfold maxLen; omega) (by omega) (by simp; omega) ?_
             intro B' d2 w' hown hgr hz
             have HY := hide ((Below.al HB7.out _).grown hgr (Below.al HB7.out _).size (fun j hj => by have := (own_lt OW.out j hj).1; omega))
             have HY5 := hide ((Below.al H57.out _).grown hgr (Below.al H57.out _).size (fun j hj => by have := (own_lt OW.out j hj).1; omega))
             rw [← chs_app] at hown
             have OY := hide hown
             clear hown hgr hz)))
        go_roundw
        case rel => exact ⟨j + 1, B', d2, O ++ [⟨k2, a2, n2, p2, h2⟩], by omega, by go_num, by simp, by simpa using OY.out, by simp; omega, by have := KR.out; simpa using this, HNX.out rfl, HY5.out, HY.out⟩
        case measure => simp [intOf]; omega
      cases Q
      · go_wp2_with (first
          | (go_at_call_of 45 A
             go_loud (
             refine (CH1.out _ (H.out.below HBS.out)).mono ?_
             rintro r w6 ⟨rfl, hb6⟩
             have HB6 := hide (Below.al (Below.then_ HBS.out hb6) (.cells #[.string ⟨k1.toArray⟩, .string ⟨a1.toArray⟩, .string ⟨n1'.toArray⟩, .bool p1, .bool h1] 71))
             have H56 := hide (Below.al (Below.then_ H5.out hb6) (.cells #[.string ⟨k1.toArray⟩, .string ⟨a1.toArray⟩, .string ⟨n1'.toArray⟩, .bool p1, .bool h1] 71))
             have OW6 := hide ((own_below OW.out hb6).alloc (.cells #[.string ⟨k1.toArray⟩, .string ⟨a1.toArray⟩, .string ⟨n1'.toArray⟩, .bool p1, .bool h1] 71))
             have V1 := hide (Vk.new w6 71 [.string ⟨k1.toArray⟩, .string ⟨a1.toArray⟩, .string ⟨n1'.toArray⟩, .bool p1, .bool h1])
             have hs6 := hb6.size
             have g6 := al_cell ((Below.then_ H5.out hb6).cell (p := ⟨b, o + j, none⟩) BL.out |>.trans CC.out) (.cells #[.string ⟨k1.toArray⟩, .string ⟨a1.toArray⟩, .string ⟨n1'.toArray⟩, .bool p1, .bool h1] 71)
             clear hb6))
          | (go_at_call_of 45 B
             go_loud (
             refine (CH2.out _ (H2.out.below HB6.out)).mono ?_
             rintro r w7 ⟨rfl, hb7⟩
             have HB7 := hide (Below.al (Below.then_ HB6.out hb7) (.cells #[.string ⟨k2.toArray⟩, .string ⟨a2.toArray⟩, .string ⟨n2.toArray⟩, .bool p2, .bool h2] 71))
             have H57 := hide (Below.al (Below.then_ H56.out hb7) (.cells #[.string ⟨k2.toArray⟩, .string ⟨a2.toArray⟩, .string ⟨n2.toArray⟩, .bool p2, .bool h2] 71))
             have OW7 := hide ((own_below OW6.out hb7).alloc (.cells #[.string ⟨k2.toArray⟩, .string ⟨a2.toArray⟩, .string ⟨n2.toArray⟩, .bool p2, .bool h2] 71))
             have V1b := hide ((V1.out.below hb7 V1.out.lt).alloc (.cells #[.string ⟨k2.toArray⟩, .string ⟨a2.toArray⟩, .string ⟨n2.toArray⟩, .bool p2, .bool h2] 71))
             have V2b := hide (Vk.new w7 71 [.string ⟨k2.toArray⟩, .string ⟨a2.toArray⟩, .string ⟨n2.toArray⟩, .bool p2, .bool h2])
             have hs7 : w6.heap.size + 1 ≤ w7.heap.size := by have := hb7.size; simpa using this
             obtain ⟨x0, x1, x2, x3, x4, _⟩ := V1b.out.five
             obtain ⟨y0, y1, y2, y3, y4, _⟩ := V2b.out.five
             have g7 := al_cell ((Below.then_ H56.out hb7).cell (p := ⟨b, o + j, none⟩) BL.out |>.trans CC.out) (.cells #[.string ⟨k2.toArray⟩, .string ⟨a2.toArray⟩, .string ⟨n2.toArray⟩, .bool p2, .bool h2] 71)
             clear hb7))
          | ((with_reducible show wpList _ _ _ (⟨some 120, _, _, _, _, _⟩ :: _) _ _)
             go_loud (
             refine wpList_app rfl (.tmp 117) (.tmp 119) 38 rfl w5.heap.size 71 (chV ch0) 5 56 Try.underlying38 info71 rfl (by omega) X d' O.length (chs O) rfl (OW7.out.alloc _) _ 1 _ (chs [⟨k1, a1, n1', p1, h1⟩]) rfl ((Vk.two_ w7 71 71 [.string ⟨k2.toArray⟩, .string ⟨a2.toArray⟩, .string ⟨n2.toArray⟩, .bool p2, .bool h2] [.string ⟨k1.toArray⟩, .string ⟨a1.toArray⟩, .string ⟨n1'.toArray⟩, .bool p1, .bool h1]).rd 5 1 rfl) (chs_one _) (by unfold maxLen; omega) (by omega) (by simp; omega) ?_
             intro B' d2 w' hown hgr hz
             have HY := hide ((Below.al HB7.out _).grown hgr (Below.al HB7.out _).size (fun j hj => by have := (own_lt OW.out j hj).1; omega))
             have HY5 := hide ((Below.al H57.out _).grown hgr (Below.al H57.out _).size (fun j hj => by have := (own_lt OW.out j hj).1; omega))
             rw [← chs_app] at hown
             have OY := hide hown
             clear hown hgr hz)))
        go_roundw
        case rel => exact ⟨j + 1, B', d2, O ++ [⟨k1, a1, n1', p1, h1⟩], by omega, by go_num, by simp, by simpa using OY.out, by simp; omega, by have := KR.out; simpa using this, HNX.out rfl, HY5.out, HY.out⟩
        case measure => simp [intOf]; omega
      obtain ⟨bd, hbd⟩ : ∃ bd, (!q1 || (h1 != p2)) = bd := ⟨_, rfl⟩
      cases bd
      case true =>
        have EB2 := hide (show rthBad L M (nthS K j) = true by rw [EB.out, hbd]; rfl)
        have HT2 := HT.out
        rw [if_pos (anyS_no (k := j) hlt EB2.out)] at HT2
        have HTT := hide HT2
        clear HT2 EB HNX EB2
        cases q1
        case false =>
          clear hbd
          go_wp2_with (first
            | (go_at_call_of 45 A
               go_loud (
               refine (CH1.out _ (H.out.below HBS.out)).mono ?_
               rintro r w6 ⟨rfl, hb6⟩
               have HB6 := hide (Below.al (Below.then_ HBS.out hb6) (.cells #[.string ⟨k1.toArray⟩, .string ⟨a1.toArray⟩, .string ⟨n1'.toArray⟩, .bool p1, .bool h1] 71))
               have H56 := hide (Below.al (Below.then_ H5.out hb6) (.cells #[.string ⟨k1.toArray⟩, .string ⟨a1.toArray⟩, .string ⟨n1'.toArray⟩, .bool p1, .bool h1] 71))
               have OW6 := hide ((own_below OW.out hb6).alloc (.cells #[.string ⟨k1.toArray⟩, .string ⟨a1.toArray⟩, .string ⟨n1'.toArray⟩, .bool p1, .bool h1] 71))
               have V1 := hide (Vk.new w6 71 [.string ⟨k1.toArray⟩, .string ⟨a1.toArray⟩, .string ⟨n1'.toArray⟩, .bool p1, .bool h1])
               have hs6 := hb6.size
               have g6 := al_cell ((Below.then_ H5.out hb6).cell (p := ⟨b, o + j, none⟩) BL.out |>.trans CC.out) (.cells #[.string ⟨k1.toArray⟩, .string ⟨a1.toArray⟩, .string ⟨n1'.toArray⟩, .bool p1, .bool h1] 71)
               clear hb6))
            | (go_at_call_of 45 B
               go_loud (
               refine (CH2.out _ (H2.out.below HB6.out)).mono ?_
               rintro r w7 ⟨rfl, hb7⟩
               have HB7 := hide (Below.al (Below.then_ HB6.out hb7) (.cells #[.string ⟨k2.toArray⟩, .string ⟨a2.toArray⟩, .string ⟨n2.toArray⟩, .bool p2, .bool h2] 71))
               have H57 := hide (Below.al (Below.then_ H56.out hb7) (.cells #[.string ⟨k2.toArray⟩, .string ⟨a2.toArray⟩, .string ⟨n2.toArray⟩, .bool p2, .bool h2] 71))
               have OW7 := hide ((own_below OW6.out hb7).alloc (.cells #[.string ⟨k2.toArray⟩, .string ⟨a2.toArray⟩, .string ⟨n2.toArray⟩, .bool p2, .bool h2] 71))
               have V1b := hide ((V1.out.below hb7 V1.out.lt).alloc (.cells #[.string ⟨k2.toArray⟩, .string ⟨a2.toArray⟩, .string ⟨n2.toArray⟩, .bool p2, .bool h2] 71))
               have V2b := hide (Vk.new w7 71 [.string ⟨k2.toArray⟩, .string ⟨a2.toArray⟩, .string ⟨n2.toArray⟩, .bool p2, .bool h2])
               have hs7 : w6.heap.size + 1 ≤ w7.heap.size := by have := hb7.size; simpa using this
               obtain ⟨x0, x1, x2, x3, x4, _⟩ := V1b.out.five
               obtain ⟨y0, y1, y2, y3, y4, _⟩ := V2b.out.five
               have g7 := al_cell ((Below.then_ H56.out hb7).cell (p := ⟨b, o + j, none⟩) BL.out |>.trans CC.out) (.cells #[.string ⟨k2.toArray⟩, .string ⟨a2.toArray⟩, .string ⟨n2.toArray⟩, .bool p2, .bool h2] 71)
               clear hb7)))
          go_ret2
          rw [← HTT.out]
          exact ⟨_, rfl, SC.nil _, HB7.out⟩
        cases h1 <;> cases p2
        case false.false => exfalso; simp at hbd
        case true.true => exfalso; simp at hbd
        case false.true =>
          clear hbd
          go_wp2_with (first
            | (go_at_call_of 45 A
               go_loud (
               refine (CH1.out _ (H.out.below HBS.out)).mono ?_
               rintro r w6 ⟨rfl, hb6⟩
               have HB6 := hide (Below.al (Below.then_ HBS.out hb6) (.cells #[.string ⟨k1.toArray⟩, .string ⟨a1.toArray⟩, .string ⟨n1'.toArray⟩, .bool p1, .bool false] 71))
               have H56 := hide (Below.al (Below.then_ H5.out hb6) (.cells #[.string ⟨k1.toArray⟩, .string ⟨a1.toArray⟩, .string ⟨n1'.toArray⟩, .bool p1, .bool false] 71))
               have OW6 := hide ((own_below OW.out hb6).alloc (.cells #[.string ⟨k1.toArray⟩, .string ⟨a1.toArray⟩, .string ⟨n1'.toArray⟩, .bool p1, .bool false] 71))
               have V1 := hide (Vk.new w6 71 [.string ⟨k1.toArray⟩, .string ⟨a1.toArray⟩, .string ⟨n1'.toArray⟩, .bool p1, .bool false])
               have hs6 := hb6.size
               have g6 := al_cell ((Below.then_ H5.out hb6).cell (p := ⟨b, o + j, none⟩) BL.out |>.trans CC.out) (.cells #[.string ⟨k1.toArray⟩, .string ⟨a1.toArray⟩, .string ⟨n1'.toArray⟩, .bool p1, .bool false] 71)
               clear hb6))
            | (go_at_call_of 45 B
               go_loud (
               refine (CH2.out _ (H2.out.below HB6.out)).mono ?_
               rintro r w7 ⟨rfl, hb7⟩
               have HB7 := hide (Below.al (Below.then_ HB6.out hb7) (.cells #[.string ⟨k2.toArray⟩, .string ⟨a2.toArray⟩, .string ⟨n2.toArray⟩, .bool true, .bool h2] 71))
               have H57 := hide (Below.al (Below.then_ H56.out hb7) (.cells #[.string ⟨k2.toArray⟩, .string ⟨a2.toArray⟩, .string ⟨n2.toArray⟩, .bool true, .bool h2] 71))
               have OW7 := hide ((own_below OW6.out hb7).alloc (.cells #[.string ⟨k2.toArray⟩, .string ⟨a2.toArray⟩, .string ⟨n2.toArray⟩, .bool true, .bool h2] 71))
               have V1b := hide ((V1.out.below hb7 V1.out.lt).alloc (.cells #[.string ⟨k2.toArray⟩, .string ⟨a2.toArray⟩, .string ⟨n2.toArray⟩, .bool true, .bool h2] 71))
               have V2b := hide (Vk.new w7 71 [.string ⟨k2.toArray⟩, .string ⟨a2.toArray⟩, .string ⟨n2.toArray⟩, .bool true, .bool h2])
               have hs7 : w6.heap.size + 1 ≤ w7.heap.size := by have := hb7.size; simpa using this
               obtain ⟨x0, x1, x2, x3, x4, _⟩ := V1b.out.five
               obtain ⟨y0, y1, y2, y3, y4, _⟩ := V2b.out.five
               have g7 := al_cell ((Below.then_ H56.out hb7).cell (p := ⟨b, o + j, none⟩) BL.out |>.trans CC.out) (.cells #[.string ⟨k2.toArray⟩, .string ⟨a2.toArray⟩, .string ⟨n2.toArray⟩, .bool true, .bool h2] 71)
               clear hb7)))
          go_ret2
          rw [← HTT.out]
          exact ⟨_, rfl, SC.nil _, HB7.out⟩
        case true.false =>
          clear hbd
          go_wp2_with (first
            | (go_at_call_of 45 A
               go_loud (
               refine (CH1.out _ (H.out.below HBS.out)).mono ?_
               rintro r w6 ⟨rfl, hb6⟩
               have HB6 := hide (Below.al (Below.then_ HBS.out hb6) (.cells #[.string ⟨k1.toArray⟩, .string ⟨a1.toArray⟩, .string ⟨n1'.toArray⟩, .bool p1, .bool true] 71))
               have H56 := hide (Below.al (Below.then_ H5.out hb6) (.cells #[.string ⟨k1.toArray⟩, .string ⟨a1.toArray⟩, .string ⟨n1'.toArray⟩, .bool p1, .bool true] 71))
               have OW6 := hide ((own_below OW.out hb6).alloc (.cells #[.string ⟨k1.toArray⟩, .string ⟨a1.toArray⟩, .string ⟨n1'.toArray⟩, .bool p1, .bool true] 71))
               have V1 := hide (Vk.new w6 71 [.string ⟨k1.toArray⟩, .string ⟨a1.toArray⟩, .string ⟨n1'.toArray⟩, .bool p1, .bool true])
               have hs6 := hb6.size
               have g6 := al_cell ((Below.then_ H5.out hb6).cell (p := ⟨b, o + j, none⟩) BL.out |>.trans CC.out) (.cells #[.string ⟨k1.toArray⟩, .string ⟨a1.toArray⟩, .string ⟨n1'.toArray⟩, .bool p1, .bool true] 71)
               clear hb6))
            | (go_at_call_of 45 B
               go_loud (
               refine (CH2.out _ (H2.out.below HB6.out)).mono ?_
               rintro r w7 ⟨rfl, hb7⟩
               have HB7 := hide (Below.al (Below.then_ HB6.out hb7) (.cells #[.string ⟨k2.toArray⟩, .string ⟨a2.toArray⟩, .string ⟨n2.toArray⟩, .bool false, .bool h2] 71))
               have H57 := hide (Below.al (Below.then_ H56.out hb7) (.cells #[.string ⟨k2.toArray⟩, .string ⟨a2.toArray⟩, .string ⟨n2.toArray⟩, .bool false, .bool h2] 71))
               have OW7 := hide ((own_below OW6.out hb7).alloc (.cells #[.string ⟨k2.toArray⟩, .string ⟨a2.toArray⟩, .string ⟨n2.toArray⟩, .bool false, .bool h2] 71))
               have V1b := hide ((V1.out.below hb7 V1.out.lt).alloc (.cells #[.string ⟨k2.toArray⟩, .string ⟨a2.toArray⟩, .string ⟨n2.toArray⟩, .bool false, .bool h2] 71))
               have V2b := hide (Vk.new w7 71 [.string ⟨k2.toArray⟩, .string ⟨a2.toArray⟩, .string ⟨n2.toArray⟩, .bool false, .bool h2])
               have hs7 : w6.heap.size + 1 ≤ w7.heap.size := by have := hb7.size; simpa using this
               obtain ⟨x0, x1, x2, x3, x4, _⟩ := V1b.out.five
               obtain ⟨y0, y1, y2, y3, y4, _⟩ := V2b.out.five
               have g7 := al_cell ((Below.then_ H56.out hb7).cell (p := ⟨b, o + j, none⟩) BL.out |>.trans CC.out) (.cells #[.string ⟨k2.toArray⟩, .string ⟨a2.toArray⟩, .string ⟨n2.toArray⟩, .bool false, .bool h2] 71)
               clear hb7)))
          go_ret2
          rw [← HTT.out]
          exact ⟨_, rfl, SC.nil _, HB7.out⟩
      have HNX2 := hide (HNX.out (by rw [hbd]; rfl))
      clear EB HNX
      obtain ⟨Z, hZ⟩ : ∃ Z : Ch, ⟨x, a1, n2, p1, h2⟩ = Z := ⟨_, rfl⟩
      have KR2 := hide (show O ++ ((if (q2 && p1 == h2) = true then [] else [Z]) ++ (K.drop (j + 1)).flatMap (rth L M)) = R by rw [← hZ]; exact KR.out)
      have NW := hide (fun w : World => show Rd (w.alloc (.cells #[.string ⟨x.toArray⟩, .string ⟨a1.toArray⟩, .string ⟨n2.toArray⟩, .bool p1, .bool h2] 71)) (some ⟨w.heap.size, 0, none⟩) 1 5 (chs [Z]) by
        rw [← hZ]
        exact (Vk.new w 71 [.string ⟨x.toArray⟩, .string ⟨a1.toArray⟩, .string ⟨n2.toArray⟩, .bool p1, .bool h2]).rd 5 1 rfl)
      clear hZ KR
      cases q1
      case false => exfalso; simp at hbd
      obtain rfl : h1 = p2 := by cases h1 <;> cases p2 <;> first | rfl | (exfalso; simp at hbd)
      clear hbd
      cases q2
      case false =>
        go_wp2_with (first
          | (go_at_call_of 45 A
             go_loud (
             refine (CH1.out _ (H.out.below HBS.out)).mono ?_
             rintro r w6 ⟨rfl, hb6⟩
             have HB6 := hide (Below.al (Below.then_ HBS.out hb6) (.cells #[.string ⟨k1.toArray⟩, .string ⟨a1.toArray⟩, .string ⟨n1'.toArray⟩, .bool p1, .bool h1] 71))
             have H56 := hide (Below.al (Below.then_ H5.out hb6) (.cells #[.string ⟨k1.toArray⟩, .string ⟨a1.toArray⟩, .string ⟨n1'.toArray⟩, .bool p1, .bool h1] 71))
             have OW6 := hide ((own_below OW.out hb6).alloc (.cells #[.string ⟨k1.toArray⟩, .string ⟨a1.toArray⟩, .string ⟨n1'.toArray⟩, .bool p1, .bool h1] 71))
             have V1 := hide (Vk.new w6 71 [.string ⟨k1.toArray⟩, .string ⟨a1.toArray⟩, .string ⟨n1'.toArray⟩, .bool p1, .bool h1])
             have hs6 := hb6.size
             have g6 := al_cell ((Below.then_ H5.out hb6).cell (p := ⟨b, o + j, none⟩) BL.out |>.trans CC.out) (.cells #[.string ⟨k1.toArray⟩, .string ⟨a1.toArray⟩, .string ⟨n1'.toArray⟩, .bool p1, .bool h1] 71)
             clear hb6))
          | (go_at_call_of 45 B
             go_loud (
             refine (CH2.out _ (H2.out.below HB6.out)).mono ?_
             rintro r w7 ⟨rfl, hb7⟩
             have HB7 := hide (Below.al (Below.then_ HB6.out hb7) (.cells #[.string ⟨k2.toArray⟩, .string ⟨a2.toArray⟩, .string ⟨n2.toArray⟩, .bool h1, .bool h2] 71))
             have H57 := hide (Below.al (Below.then_ H56.out hb7) (.cells #[.string ⟨k2.toArray⟩, .string ⟨a2.toArray⟩, .string ⟨n2.toArray⟩, .bool h1, .bool h2] 71))
             have OW7 := hide ((own_below OW6.out hb7).alloc (.cells #[.string ⟨k2.toArray⟩, .string ⟨a2.toArray⟩, .string ⟨n2.toArray⟩, .bool h1, .bool h2] 71))
             have V1b := hide ((V1.out.below hb7 V1.out.lt).alloc (.cells #[.string ⟨k2.toArray⟩, .string ⟨a2.toArray⟩, .string ⟨n2.toArray⟩, .bool h1, .bool h2] 71))
             have V2b := hide (Vk.new w7 71 [.string ⟨k2.toArray⟩, .string ⟨a2.toArray⟩, .string ⟨n2.toArray⟩, .bool h1, .bool h2])
             have hs7 : w6.heap.size + 1 ≤ w7.heap.size := by have := hb7.size; simpa using this
             obtain ⟨x0, x1, x2, x3, x4, _⟩ := V1b.out.five
             obtain ⟨y0, y1, y2, y3, y4, _⟩ := V2b.out.five
             have g7 := al_cell ((Below.then_ H56.out hb7).cell (p := ⟨b, o + j, none⟩) BL.out |>.trans CC.out) (.cells #[.string ⟨k2.toArray⟩, .string ⟨a2.toArray⟩, .string ⟨n2.toArray⟩, .bool h1, .bool h2] 71)
             clear hb7)))
        have hlW := H57.out.size
        have hs8 := V2b.out.lt
        have b0 := fun ob => al_cell (w := (w7.alloc (.cells #[.string ⟨k2.toArray⟩, .string ⟨a2.toArray⟩, .string ⟨n2.toArray⟩, .bool h1, .bool h2] 71)).drew) g7 ob
        have b1 := fun ob => al_cell (w := (w7.alloc (.cells #[.string ⟨k2.toArray⟩, .string ⟨a2.toArray⟩, .string ⟨n2.toArray⟩, .bool h1, .bool h2] 71)).drew) x1 ob
        have b2 := fun ob => al_cell (w := (w7.alloc (.cells #[.string ⟨k2.toArray⟩, .string ⟨a2.toArray⟩, .string ⟨n2.toArray⟩, .bool h1, .bool h2] 71)).drew) y2 ob
        have b3 := fun ob => al_cell (w := (w7.alloc (.cells #[.string ⟨k2.toArray⟩, .string ⟨a2.toArray⟩, .string ⟨n2.toArray⟩, .bool h1, .bool h2] 71)).drew) x3 ob
        have b4 := fun ob => al_cell (w := (w7.alloc (.cells #[.string ⟨k2.toArray⟩, .string ⟨a2.toArray⟩, .string ⟨n2.toArray⟩, .bool h1, .bool h2] 71)).drew) y4 ob
        go_region_held3 (fun z => z.cell? ⟨b, o + j, none⟩ = some (.string ⟨x.toArray⟩) ∧ z.cell? ⟨w6.heap.size, 1, none⟩ = some (.string ⟨a1.toArray⟩) ∧ z.cell? ⟨w7.heap.size, 2, none⟩ = some (.string ⟨n2.toArray⟩) ∧ z.cell? ⟨w6.heap.size, 3, none⟩ = some (.bool p1) ∧ z.cell? ⟨w7.heap.size, 4, none⟩ = some (.bool h2))
          (first | go_keep | exact ⟨g7, x1, y2, x3, y4⟩ | exact ⟨b0 _, b1 _, b2 _, b3 _, b4 _⟩ | exact KP.out)
          (first
           | (refine step_app rfl (.tmp 99) (.tmp 113) 38 rfl w5.heap.size 71 (chV ch0) 5 56 Try.underlying38 info71 rfl (by omega) X d' O.length (chs O) rfl ?_ (some ⟨w7.heap.size + 1, 0, none⟩) 1 1 (chs [Z]) rfl ?_ (chs_one _) ?_ ?_ ?_ ?_
              · exact OW7.out.drew.alloc _
              · have q : Rd ((w7.alloc (.cells #[.string ⟨k2.toArray⟩, .string ⟨a2.toArray⟩, .string ⟨n2.toArray⟩, .bool h1, .bool h2] 71)).alloc (.cells #[.string ⟨x.toArray⟩, .string ⟨a1.toArray⟩, .string ⟨n2.toArray⟩, .bool p1, .bool h2] 71)) (some ⟨w7.heap.size + 1, 0, none⟩) 1 5 (chs [Z]) := by
                  have := NW.out (w7.alloc (.cells #[.string ⟨k2.toArray⟩, .string ⟨a2.toArray⟩, .string ⟨n2.toArray⟩, .bool h1, .bool h2] 71))
                  simpa using this
                exact q.drew
              · unfold maxLen; omega
              · omega
              · simp; omega
              intro B' d2 w' hown hgr hz
              have nE : ∀ g, wr.heap.size ≤ g → some g ≠ (Value.slice X O.length d').ownBlock := fun g hg e => by have := (own_lt OW.out g e.symm).2; omega
              have HY := hide ((Below.al HB7.out.drew _).grown hgr (Below.al HB7.out.drew _).size (fun j hj => by have := (own_lt OW.out j hj).1; omega))
              have HY5 := hide ((Below.al H57.out.drew _).grown hgr (Below.al H57.out.drew _).size (fun j hj => by have := (own_lt OW.out j hj).1; omega))
              have Q1 := (V1b.out.drew.alloc _).grown hgr (nE _ hs6)
              have Q2 := (V2b.out.drew.alloc _).grown hgr (nE _ (by omega))
              obtain ⟨_, z1, _, z3, _, _⟩ := Q1.five
              obtain ⟨_, _, z2, _, z4, _⟩ := Q2.five
              have KP := hide (And.intro ((HY5.out.cell (p := ⟨b, o + j, none⟩) BL.out).trans CC.out) (And.intro z1 (And.intro z2 (And.intro z3 z4))))
              rw [← chs_app] at hown
              have OY := hide hown
              clear hown hgr hz nE Q1 Q2 z1 z2 z3 z4))
        all_goals (
          go_wp2_with fail
          go_roundw
          case rel => exact ⟨j + 1, B', d2, O ++ [Z], by omega, by go_num, by simp, by simpa using OY.out, by simp; omega, by have := KR2.out; simpa using this, HNX2.out, HY5.out, HY.out⟩
          case measure => simp [intOf]; omega)
      cases p1 <;> cases h2
      case true.false.false =>
        go_wp2_with (first
          | (go_at_call_of 45 A
             go_loud (
             refine (CH1.out _ (H.out.below HBS.out)).mono ?_
             rintro r w6 ⟨rfl, hb6⟩
             have HB6 := hide (Below.al (Below.then_ HBS.out hb6) (.cells #[.string ⟨k1.toArray⟩, .string ⟨a1.toArray⟩, .string ⟨n1'.toArray⟩, .bool false, .bool h1] 71))
             have H56 := hide (Below.al (Below.then_ H5.out hb6) (.cells #[.string ⟨k1.toArray⟩, .string ⟨a1.toArray⟩, .string ⟨n1'.toArray⟩, .bool false, .bool h1] 71))
             have OW6 := hide ((own_below OW.out hb6).alloc (.cells #[.string ⟨k1.toArray⟩, .string ⟨a1.toArray⟩, .string ⟨n1'.toArray⟩, .bool false, .bool h1] 71))
             have V1 := hide (Vk.new w6 71 [.string ⟨k1.toArray⟩, .string ⟨a1.toArray⟩, .string ⟨n1'.toArray⟩, .bool false, .bool h1])
             have hs6 := hb6.size
             have g6 := al_cell ((Below.then_ H5.out hb6).cell (p := ⟨b, o + j, none⟩) BL.out |>.trans CC.out) (.cells #[.string ⟨k1.toArray⟩, .string ⟨a1.toArray⟩, .string ⟨n1'.toArray⟩, .bool false, .bool h1] 71)
             clear hb6))
          | (go_at_call_of 45 B
             go_loud (
             refine (CH2.out _ (H2.out.below HB6.out)).mono ?_
             rintro r w7 ⟨rfl, hb7⟩
             have HB7 := hide (Below.al (Below.then_ HB6.out hb7) (.cells #[.string ⟨k2.toArray⟩, .string ⟨a2.toArray⟩, .string ⟨n2.toArray⟩, .bool h1, .bool false] 71))
             have H57 := hide (Below.al (Below.then_ H56.out hb7) (.cells #[.string ⟨k2.toArray⟩, .string ⟨a2.toArray⟩, .string ⟨n2.toArray⟩, .bool h1, .bool false] 71))
             have OW7 := hide ((own_below OW6.out hb7).alloc (.cells #[.string ⟨k2.toArray⟩, .string ⟨a2.toArray⟩, .string ⟨n2.toArray⟩, .bool h1, .bool false] 71))
             have V1b := hide ((V1.out.below hb7 V1.out.lt).alloc (.cells #[.string ⟨k2.toArray⟩, .string ⟨a2.toArray⟩, .string ⟨n2.toArray⟩, .bool h1, .bool false] 71))
             have V2b := hide (Vk.new w7 71 [.string ⟨k2.toArray⟩, .string ⟨a2.toArray⟩, .string ⟨n2.toArray⟩, .bool h1, .bool false])
             have hs7 : w6.heap.size + 1 ≤ w7.heap.size := by have := hb7.size; simpa using this
             obtain ⟨x0, x1, x2, x3, x4, _⟩ := V1b.out.five
             obtain ⟨y0, y1, y2, y3, y4, _⟩ := V2b.out.five
             have g7 := al_cell ((Below.then_ H56.out hb7).cell (p := ⟨b, o + j, none⟩) BL.out |>.trans CC.out) (.cells #[.string ⟨k2.toArray⟩, .string ⟨a2.toArray⟩, .string ⟨n2.toArray⟩, .bool h1, .bool false] 71)
             clear hb7)))
        go_roundw
        case rel => exact ⟨j + 1, X, d', O, by omega, by go_num, rfl, OW7.out, by omega, by have := KR2.out; simpa using this, HNX2.out, H57.out, HB7.out⟩
        case measure => simp [intOf]; omega
      case true.true.true =>
        go_wp2_with (first
          | (go_at_call_of 45 A
             go_loud (
             refine (CH1.out _ (H.out.below HBS.out)).mono ?_
             rintro r w6 ⟨rfl, hb6⟩
             have HB6 := hide (Below.al (Below.then_ HBS.out hb6) (.cells #[.string ⟨k1.toArray⟩, .string ⟨a1.toArray⟩, .string ⟨n1'.toArray⟩, .bool true, .bool h1] 71))
             have H56 := hide (Below.al (Below.then_ H5.out hb6) (.cells #[.string ⟨k1.toArray⟩, .string ⟨a1.toArray⟩, .string ⟨n1'.toArray⟩, .bool true, .bool h1] 71))
             have OW6 := hide ((own_below OW.out hb6).alloc (.cells #[.string ⟨k1.toArray⟩, .string ⟨a1.toArray⟩, .string ⟨n1'.toArray⟩, .bool true, .bool h1] 71))
             have V1 := hide (Vk.new w6 71 [.string ⟨k1.toArray⟩, .string ⟨a1.toArray⟩, .string ⟨n1'.toArray⟩, .bool true, .bool h1])
             have hs6 := hb6.size
             have g6 := al_cell ((Below.then_ H5.out hb6).cell (p := ⟨b, o + j, none⟩) BL.out |>.trans CC.out) (.cells #[.string ⟨k1.toArray⟩, .string ⟨a1.toArray⟩, .string ⟨n1'.toArray⟩, .bool true, .bool h1] 71)
             clear hb6))
          | (go_at_call_of 45 B
             go_loud (
             refine (CH2.out _ (H2.out.below HB6.out)).mono ?_
             rintro r w7 ⟨rfl, hb7⟩
             have HB7 := hide (Below.al (Below.then_ HB6.out hb7) (.cells #[.string ⟨k2.toArray⟩, .string ⟨a2.toArray⟩, .string ⟨n2.toArray⟩, .bool h1, .bool true] 71))
             have H57 := hide (Below.al (Below.then_ H56.out hb7) (.cells #[.string ⟨k2.toArray⟩, .string ⟨a2.toArray⟩, .string ⟨n2.toArray⟩, .bool h1, .bool true] 71))
             have OW7 := hide ((own_below OW6.out hb7).alloc (.cells #[.string ⟨k2.toArray⟩, .string ⟨a2.toArray⟩, .string ⟨n2.toArray⟩, .bool h1, .bool true] 71))
             have V1b := hide ((V1.out.below hb7 V1.out.lt).alloc (.cells #[.string ⟨k2.toArray⟩, .string ⟨a2.toArray⟩, .string ⟨n2.toArray⟩, .bool h1, .bool true] 71))
             have V2b := hide (Vk.new w7 71 [.string ⟨k2.toArray⟩, .string ⟨a2.toArray⟩, .string ⟨n2.toArray⟩, .bool h1, .bool true])
             have hs7 : w6.heap.size + 1 ≤ w7.heap.size := by have := hb7.size; simpa using this
             obtain ⟨x0, x1, x2, x3, x4, _⟩ := V1b.out.five
             obtain ⟨y0, y1, y2, y3, y4, _⟩ := V2b.out.five
             have g7 := al_cell ((Below.then_ H56.out hb7).cell (p := ⟨b, o + j, none⟩) BL.out |>.trans CC.out) (.cells #[.string ⟨k2.toArray⟩, .string ⟨a2.toArray⟩, .string ⟨n2.toArray⟩, .bool h1, .bool true] 71)
             clear hb7)))
        go_roundw
        case rel => exact ⟨j + 1, X, d', O, by omega, by go_num, rfl, OW7.out, by omega, by have := KR2.out; simpa using this, HNX2.out, H57.out, HB7.out⟩
        case measure => simp [intOf]; omega
      case true.false.true =>
        go_wp2_with (first
          | (go_at_call_of 45 A
             go_loud (
             refine (CH1.out _ (H.out.below HBS.out)).mono ?_
             rintro r w6 ⟨rfl, hb6⟩
             have HB6 := hide (Below.al (Below.then_ HBS.out hb6) (.cells #[.string ⟨k1.toArray⟩, .string ⟨a1.toArray⟩, .string ⟨n1'.toArray⟩, .bool false, .bool h1] 71))
             have H56 := hide (Below.al (Below.then_ H5.out hb6) (.cells #[.string ⟨k1.toArray⟩, .string ⟨a1.toArray⟩, .string ⟨n1'.toArray⟩, .bool false, .bool h1] 71))
             have OW6 := hide ((own_below OW.out hb6).alloc (.cells #[.string ⟨k1.toArray⟩, .string ⟨a1.toArray⟩, .string ⟨n1'.toArray⟩, .bool false, .bool h1] 71))
             have V1 := hide (Vk.new w6 71 [.string ⟨k1.toArray⟩, .string ⟨a1.toArray⟩, .string ⟨n1'.toArray⟩, .bool false, .bool h1])
             have hs6 := hb6.size
             have g6 := al_cell ((Below.then_ H5.out hb6).cell (p := ⟨b, o + j, none⟩) BL.out |>.trans CC.out) (.cells #[.string ⟨k1.toArray⟩, .string ⟨a1.toArray⟩, .string ⟨n1'.toArray⟩, .bool false, .bool h1] 71)
             clear hb6))
          | (go_at_call_of 45 B
             go_loud (
             refine (CH2.out _ (H2.out.below HB6.out)).mono ?_
             rintro r w7 ⟨rfl, hb7⟩
             have HB7 := hide (Below.al (Below.then_ HB6.out hb7) (.cells #[.string ⟨k2.toArray⟩, .string ⟨a2.toArray⟩, .string ⟨n2.toArray⟩, .bool h1, .bool true] 71))
             have H57 := hide (Below.al (Below.then_ H56.out hb7) (.cells #[.string ⟨k2.toArray⟩, .string ⟨a2.toArray⟩, .string ⟨n2.toArray⟩, .bool h1, .bool true] 71))
             have OW7 := hide ((own_below OW6.out hb7).alloc (.cells #[.string ⟨k2.toArray⟩, .string ⟨a2.toArray⟩, .string ⟨n2.toArray⟩, .bool h1, .bool true] 71))
             have V1b := hide ((V1.out.below hb7 V1.out.lt).alloc (.cells #[.string ⟨k2.toArray⟩, .string ⟨a2.toArray⟩, .string ⟨n2.toArray⟩, .bool h1, .bool true] 71))
             have V2b := hide (Vk.new w7 71 [.string ⟨k2.toArray⟩, .string ⟨a2.toArray⟩, .string ⟨n2.toArray⟩, .bool h1, .bool true])
             have hs7 : w6.heap.size + 1 ≤ w7.heap.size := by have := hb7.size; simpa using this
             obtain ⟨x0, x1, x2, x3, x4, _⟩ := V1b.out.five
             obtain ⟨y0, y1, y2, y3, y4, _⟩ := V2b.out.five
             have g7 := al_cell ((Below.then_ H56.out hb7).cell (p := ⟨b, o + j, none⟩) BL.out |>.trans CC.out) (.cells #[.string ⟨k2.toArray⟩, .string ⟨a2.toArray⟩, .string ⟨n2.toArray⟩, .bool h1, .bool true] 71)
             clear hb7)))
        have hlW := H57.out.size
        have hs8 := V2b.out.lt
        have b0 := fun ob => al_cell (w := (w7.alloc (.cells #[.string ⟨k2.toArray⟩, .string ⟨a2.toArray⟩, .string ⟨n2.toArray⟩, .bool h1, .bool true] 71)).drew) g7 ob
        have b1 := fun ob => al_cell (w := (w7.alloc (.cells #[.string ⟨k2.toArray⟩, .string ⟨a2.toArray⟩, .string ⟨n2.toArray⟩, .bool h1, .bool true] 71)).drew) x1 ob
        have b2 := fun ob => al_cell (w := (w7.alloc (.cells #[.string ⟨k2.toArray⟩, .string ⟨a2.toArray⟩, .string ⟨n2.toArray⟩, .bool h1, .bool true] 71)).drew) y2 ob
        have b3 := fun ob => al_cell (w := (w7.alloc (.cells #[.string ⟨k2.toArray⟩, .string ⟨a2.toArray⟩, .string ⟨n2.toArray⟩, .bool h1, .bool true] 71)).drew) x3 ob
        have b4 := fun ob => al_cell (w := (w7.alloc (.cells #[.string ⟨k2.toArray⟩, .string ⟨a2.toArray⟩, .string ⟨n2.toArray⟩, .bool h1, .bool true] 71)).drew) y4 ob
        go_region_held3 (fun z => z.cell? ⟨b, o + j, none⟩ = some (.string ⟨x.toArray⟩) ∧ z.cell? ⟨w6.heap.size, 1, none⟩ = some (.string ⟨a1.toArray⟩) ∧ z.cell? ⟨w7.heap.size, 2, none⟩ = some (.string ⟨n2.toArray⟩) ∧ z.cell? ⟨w6.heap.size, 3, none⟩ = some (.bool false) ∧ z.cell? ⟨w7.heap.size, 4, none⟩ = some (.bool true))
          (first | go_keep | exact ⟨g7, x1, y2, x3, y4⟩ | exact ⟨b0 _, b1 _, b2 _, b3 _, b4 _⟩ | exact KP.out)
          (first
           | (refine step_app rfl (.tmp 99) (.tmp 113) 38 rfl w5.heap.size 71 (chV ch0) 5 56 Try.underlying38 info71 rfl (by omega) X d' O.length (chs O) rfl ?_ (some ⟨w7.heap.size + 1, 0, none⟩) 1 1 (chs [Z]) rfl ?_ (chs_one _) ?_ ?_ ?_ ?_
              · exact OW7.out.drew.alloc _
              · have q : Rd ((w7.alloc (.cells #[.string ⟨k2.toArray⟩, .string ⟨a2.toArray⟩, .string ⟨n2.toArray⟩, .bool h1, .bool true] 71)).alloc (.cells #[.string ⟨x.toArray⟩, .string ⟨a1.toArray⟩, .string ⟨n2.toArray⟩, .bool false, .bool true] 71)) (some ⟨w7.heap.size + 1, 0, none⟩) 1 5 (chs [Z]) := by
                  have := NW.out (w7.alloc (.cells #[.string ⟨k2.toArray⟩, .string ⟨a2.toArray⟩, .string ⟨n2.toArray⟩, .bool h1, .bool true] 71))
                  simpa using this
                exact q.drew
              · unfold maxLen; omega
              · omega
              · simp; omega
              intro B' d2 w' hown hgr hz
              have nE : ∀ g, wr.heap.size ≤ g → some g ≠ (Value.slice X O.length d').ownBlock := fun g hg e => by have := (own_lt OW.out g e.symm).2; omega
              have HY := hide ((Below.al HB7.out.drew _).grown hgr (Below.al HB7.out.drew _).size (fun j hj => by have := (own_lt OW.out j hj).1; omega))
              have HY5 := hide ((Below.al H57.out.drew _).grown hgr (Below.al H57.out.drew _).size (fun j hj => by have := (own_lt OW.out j hj).1; omega))
              have Q1 := (V1b.out.drew.alloc _).grown hgr (nE _ hs6)
              have Q2 := (V2b.out.drew.alloc _).grown hgr (nE _ (by omega))
              obtain ⟨_, z1, _, z3, _, _⟩ := Q1.five
              obtain ⟨_, _, z2, _, z4, _⟩ := Q2.five
              have KP := hide (And.intro ((HY5.out.cell (p := ⟨b, o + j, none⟩) BL.out).trans CC.out) (And.intro z1 (And.intro z2 (And.intro z3 z4))))
              rw [← chs_app] at hown
              have OY := hide hown
              clear hown hgr hz nE Q1 Q2 z1 z2 z3 z4))
        all_goals (
          go_wp2_with fail
          go_roundw
          case rel => exact ⟨j + 1, B', d2, O ++ [Z], by omega, by go_num, by simp, by simpa using OY.out, by simp; omega, by have := KR2.out; simpa using this, HNX2.out, HY5.out, HY.out⟩
          case measure => simp [intOf]; omega)
      case true.true.false =>
        go_wp2_with (first
          | (go_at_call_of 45 A
             go_loud (
             refine (CH1.out _ (H.out.below HBS.out)).mono ?_
             rintro r w6 ⟨rfl, hb6⟩
             have HB6 := hide (Below.al (Below.then_ HBS.out hb6) (.cells #[.string ⟨k1.toArray⟩, .string ⟨a1.toArray⟩, .string ⟨n1'.toArray⟩, .bool true, .bool h1] 71))
             have H56 := hide (Below.al (Below.then_ H5.out hb6) (.cells #[.string ⟨k1.toArray⟩, .string ⟨a1.toArray⟩, .string ⟨n1'.toArray⟩, .bool true, .bool h1] 71))
             have OW6 := hide ((own_below OW.out hb6).alloc (.cells #[.string ⟨k1.toArray⟩, .string ⟨a1.toArray⟩, .string ⟨n1'.toArray⟩, .bool true, .bool h1] 71))
             have V1 := hide (Vk.new w6 71 [.string ⟨k1.toArray⟩, .string ⟨a1.toArray⟩, .string ⟨n1'.toArray⟩, .bool true, .bool h1])
             have hs6 := hb6.size
             have g6 := al_cell ((Below.then_ H5.out hb6).cell (p := ⟨b, o + j, none⟩) BL.out |>.trans CC.out) (.cells #[.string ⟨k1.toArray⟩, .string ⟨a1.toArray⟩, .string ⟨n1'.toArray⟩, .bool true, .bool h1] 71)
             clear hb6))
          | (go_at_call_of 45 B
             go_loud (
             refine (CH2.out _ (H2.out.below HB6.out)).mono ?_
             rintro r w7 ⟨rfl, hb7⟩
             have HB7 := hide (Below.al (Below.then_ HB6.out hb7) (.cells #[.string ⟨k2.toArray⟩, .string ⟨a2.toArray⟩, .string ⟨n2.toArray⟩, .bool h1, .bool false] 71))
             have H57 := hide (Below.al (Below.then_ H56.out hb7) (.cells #[.string ⟨k2.toArray⟩, .string ⟨a2.toArray⟩, .string ⟨n2.toArray⟩, .bool h1, .bool false] 71))
             have OW7 := hide ((own_below OW6.out hb7).alloc (.cells #[.string ⟨k2.toArray⟩, .string ⟨a2.toArray⟩, .string ⟨n2.toArray⟩, .bool h1, .bool false] 71))
             have V1b := hide ((V1.out.below hb7 V1.out.lt).alloc (.cells #[.string ⟨k2.toArray⟩, .string ⟨a2.toArray⟩, .string ⟨n2.toArray⟩, .bool h1, .bool false] 71))
             have V2b := hide (Vk.new w7 71 [.string ⟨k2.toArray⟩, .string ⟨a2.toArray⟩, .string ⟨n2.toArray⟩, .bool h1, .bool false])
             have hs7 : w6.heap.size + 1 ≤ w7.heap.size := by have := hb7.size; simpa using this
             obtain ⟨x0, x1, x2, x3, x4, _⟩ := V1b.out.five
             obtain ⟨y0, y1, y2, y3, y4, _⟩ := V2b.out.five
             have g7 := al_cell ((Below.then_ H56.out hb7).cell (p := ⟨b, o + j, none⟩) BL.out |>.trans CC.out) (.cells #[.string ⟨k2.toArray⟩, .string ⟨a2.toArray⟩, .string ⟨n2.toArray⟩, .bool h1, .bool false] 71)
             clear hb7)))
        have hlW := H57.out.size
        have hs8 := V2b.out.lt
        have b0 := fun ob => al_cell (w := (w7.alloc (.cells #[.string ⟨k2.toArray⟩, .string ⟨a2.toArray⟩, .string ⟨n2.toArray⟩, .bool h1, .bool false] 71)).drew) g7 ob
        have b1 := fun ob => al_cell (w := (w7.alloc (.cells #[.string ⟨k2.toArray⟩, .string ⟨a2.toArray⟩, .string ⟨n2.toArray⟩, .bool h1, .bool false] 71)).drew) x1 ob
        have b2 := fun ob => al_cell (w := (w7.alloc (.cells #[.string ⟨k2.toArray⟩, .string ⟨a2.toArray⟩, .string ⟨n2.toArray⟩, .bool h1, .bool false] 71)).drew) y2 ob
        have b3 := fun ob => al_cell (w := (w7.alloc (.cells #[.string ⟨k2.toArray⟩, .string ⟨a2.toArray⟩, .string ⟨n2.toArray⟩, .bool h1, .bool false] 71)).drew) x3 ob
        have b4 := fun ob => al_cell (w := (w7.alloc (.cells #[.string ⟨k2.toArray⟩, .string ⟨a2.toArray⟩, .string ⟨n2.toArray⟩, .bool h1, .bool false] 71)).drew) y4 ob
        go_region_held3 (fun z => z.cell? ⟨b, o + j, none⟩ = some (.string ⟨x.toArray⟩) ∧ z.cell? ⟨w6.heap.size, 1, none⟩ = some (.string ⟨a1.toArray⟩) ∧ z.cell? ⟨w7.heap.size, 2, none⟩ = some (.string ⟨n2.toArray⟩) ∧ z.cell? ⟨w6.heap.size, 3, none⟩ = some (.bool true) ∧ z.cell? ⟨w7.heap.size, 4, none⟩ = some (.bool false))
          (first | go_keep | exact ⟨g7, x1, y2, x3, y4⟩ | exact ⟨b0 _, b1 _, b2 _, b3 _, b4 _⟩ | exact KP.out)
          (first
           | (refine step_app rfl (.tmp 99) (.tmp 113) 38 rfl w5.heap.size 71 (chV ch0) 5 56 Try.underlying38 info71 rfl (by omega) X d' O.length (chs O) rfl ?_ (some ⟨w7.heap.size + 1, 0, none⟩) 1 1 (chs [Z]) rfl ?_ (chs_one _) ?_ ?_ ?_ ?_
              · exact OW7.out.drew.alloc _
              · have q : Rd ((w7.alloc (.cells #[.string ⟨k2.toArray⟩, .string ⟨a2.toArray⟩, .string ⟨n2.toArray⟩, .bool h1, .bool false] 71)).alloc (.cells #[.string ⟨x.toArray⟩, .string ⟨a1.toArray⟩, .string ⟨n2.toArray⟩, .bool true, .bool false] 71)) (some ⟨w7.heap.size + 1, 0, none⟩) 1 5 (chs [Z]) := by
                  have := NW.out (w7.alloc (.cells #[.string ⟨k2.toArray⟩, .string ⟨a2.toArray⟩, .string ⟨n2.toArray⟩, .bool h1, .bool false] 71))
                  simpa using this
                exact q.drew
              · unfold maxLen; omega
              · omega
              · simp; omega
              intro B' d2 w' hown hgr hz
              have nE : ∀ g, wr.heap.size ≤ g → some g ≠ (Value.slice X O.length d').ownBlock := fun g hg e => by have := (own_lt OW.out g e.symm).2; omega
              have HY := hide ((Below.al HB7.out.drew _).grown hgr (Below.al HB7.out.drew _).size (fun j hj => by have := (own_lt OW.out j hj).1; omega))
              have HY5 := hide ((Below.al H57.out.drew _).grown hgr (Below.al H57.out.drew _).size (fun j hj => by have := (own_lt OW.out j hj).1; omega))
              have Q1 := (V1b.out.drew.alloc _).grown hgr (nE _ hs6)
              have Q2 := (V2b.out.drew.alloc _).grown hgr (nE _ (by omega))
              obtain ⟨_, z1, _, z3, _, _⟩ := Q1.five
              obtain ⟨_, _, z2, _, z4, _⟩ := Q2.five
              have KP := hide (And.intro ((HY5.out.cell (p := ⟨b, o + j, none⟩) BL.out).trans CC.out) (And.intro z1 (And.intro z2 (And.intro z3 z4))))
              rw [← chs_app] at hown
              have OY := hide hown
              clear hown hgr hz nE Q1 Q2 z1 z2 z3 z4))
        all_goals (
          go_wp2_with fail
          go_roundw
          case rel => exact ⟨j + 1, B', d2, O ++ [Z], by omega, by go_num, by simp, by simpa using OY.out, by simp; omega, by have := KR2.out; simpa using this, HNX2.out, HY5.out, HY.out⟩
          case measure => simp [intOf]; omega)
    · obtain rfl : j = K.length := by omega
      rw [List.drop_of_length_le (Nat.le_refl _), List.flatMap_nil, List.append_nil] at hR
      have KR := hide hR
      have HT2 := HT.out
      rw [if_neg (by rw [anyS_yes (fun i hi => HNB.out i hi)]; simp)] at HT2
      have HTT := hide HT2
      clear hR HT2
      go_wp2_with fail
      go_ret2
      rw [← HTT.out]
      exact ⟨_, rfl, ⟨X, O.length, d', rfl, (own_capN OW.out).1, by rw [← KR.out]; exact Rch.of_own OW.out⟩, HBS.out⟩
end Go.Proofs.Ytcmlegpfapomnaa

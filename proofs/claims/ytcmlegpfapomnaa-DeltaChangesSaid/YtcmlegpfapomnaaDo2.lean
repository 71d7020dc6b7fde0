/- The walk of the document's Apply. -/
import Derived.Test.YtcmlegpfapomnaaDl2
import Derived.Test.YtcmlegpfapomnaaDm
namespace Go.Proofs.Ytcmlegpfapomnaa
open Go.RowKit Go.Instr
open Go.Op (bytesLess)

theorem anyC_no {f : Ch → Bool} {L : List Ch} {k : Nat} (hk : k < L.length) (h : f (nthC L k) = true) : L.any f = true := by
  rw [List.any_eq_true]
  exact ⟨L[k], List.getElem_mem hk, by have : nthC L k = L[k] := by simp [nthC, List.getD, hk]
                                       rw [← this, h]⟩
theorem anyC_yes {f : Ch → Bool} {L : List Ch} (h : ∀ j, j < L.length → f (nthC L j) = false) : L.any f = false := by
  rw [List.any_eq_false]
  intro x hx
  obtain ⟨j, hj, rfl⟩ := List.getElem_of_mem hx
  have : nthC L j = L[j] := by simp [nthC, List.getD, hj]
  rw [← this, h j hj]
  simp
/-- Does a change not fit? -/
def unfit (L : List Pr) (c : Ch) : Bool := !((fnd L c.k).getD [] == c.was) || ((fnd L c.k).isSome != c.had)
def rap1 (L : List Pr) (D : List Ch) (x : Sx) : Sx × Bool := if (chg D x).isSome = true then (((chg D x).getD ch0).now, ((chg D x).getD ch0).has) else ((fnd L x).getD [], (fnd L x).isSome)
def rap (L : List Pr) (D : List Ch) (x : Sx) : List Pr := if (rap1 L D x).2 = true then [⟨x, (rap1 L D x).1⟩] else []
/-- Changes made of a view, as the document says. -/
def rapl (L : List Pr) (D : List Ch) : List Pr × Int := if chk D ≠ 0 then ([], chk D) else if ris (L.map Pr.k) = false then ([], 12) else if D.any (unfit L) = true then ([], 11) else ((kys (L.map Pr.k) (D.map Ch.k)).flatMap (rap L D), 0)
set_option maxRecDepth 100000 in
set_option maxHeartbeats 16000000 in
theorem rapl_any (A : Option Addr) (n c : Nat) (L : List Pr) (B : Option Addr) (m d : Nat) (M : List Ch) (w : World) (hs : n + m ≤ 500) (hA : Rp w A n L) (hB : Rch w B m M) :
    Calls Try.prog 18 #[.slice A n c, .slice B m d] w fun e w' => ∃ v, e = .returned (.tuple #[v, .int .i64 (rapl L M).2]) ∧ SP w' v (rapl L M).1 ∧ Below w.heap.size w w' := by
  have H := hide hA
  have H2 := hide hB
  have HS := hide hs
  have HL := hide hA.len
  have HM := hide hB.len
  obtain ⟨T, hT⟩ : ∃ T, rapl L M = T := ⟨_, rfl⟩
  rw [hT]
  unfold rapl at hT
  have hm5 : m ≤ 500 := by omega
  clear hA hB hs
  by_cases h0 : chk M = 0
  case neg =>
    rw [if_pos h0] at hT
    have HT := hide hT
    obtain ⟨C, hC⟩ : ∃ C, chk M = C := ⟨_, rfl⟩
    have K1 := hide hC
    rw [hC] at h0 HT
    clear hT hC
    have dz : (C != 0) = true := by simpa using h0
    clear h0
    go_enter Try.func18, Try.ntmps18
    go_wp2_with (
      go_at_call 23
      refine (rcheck_any B m d M w (by have := HS.out; omega) H2.out).mono ?_
      rintro r w1 ⟨rfl, hb1⟩
      have HB1 := hide hb1
      clear hb1
      rw [K1.out])
    go_ret2
    rw [← HT.out]
    exact ⟨_, rfl, SP.nil _, HB1.out⟩
  rw [if_neg (by rw [h0]; simp)] at hT
  have K1 := hide h0
  clear h0
  obtain ⟨R, hR⟩ : ∃ R, ris (L.map Pr.k) = R := ⟨_, rfl⟩
  rw [hR] at hT
  have HR := hide hR
  clear hR
  cases R
  case false =>
    rw [if_pos rfl] at hT
    have HT := hide hT
    clear hT
    go_enter Try.func18, Try.ntmps18
    go_wp2_with (first
      | (go_at_call 23
         refine (rcheck_any B m d M w (by have := HS.out; omega) H2.out).mono ?_
         rintro r w1 ⟨rfl, hb1⟩
         have HB1 := hide hb1
         clear hb1
         rw [K1.out])
      | (go_at_call 8
         refine (view_any A n c L w1 (by have := HS.out; omega) (H.out.below HB1.out)).mono ?_
         rintro r w2 ⟨rfl, hb2⟩
         have HB2 := hide (Below.then_ HB1.out hb2)
         clear hb2
         rw [HR.out]))
    go_ret2
    rw [← HT.out]
    exact ⟨_, rfl, SP.nil _, HB2.out⟩
  rw [if_neg (by simp)] at hT
  have HT := hide hT
  clear hT
  go_enter Try.func18, Try.ntmps18
  go_wp2_with (first
    | (go_at_call 23
       refine (rcheck_any B m d M w (by have := HS.out; omega) H2.out).mono ?_
       rintro r w1 ⟨rfl, hb1⟩
       have HB1 := hide hb1
       clear hb1
       rw [K1.out])
    | (go_at_call 8
       refine (view_any A n c L w1 (by have := HS.out; omega) (H.out.below HB1.out)).mono ?_
       rintro r w2 ⟨rfl, hb2⟩
       have HB2 := hide (Below.then_ HB1.out hb2)
       clear hb2
       rw [HR.out]))
  go_loopw [7] (fun i wr => ∃ j : Nat, j ≤ m ∧ i = .int .i64 j ∧ (∀ i, i < j → unfit L (nthC M i) = false) ∧ Below w.heap.size w wr) (fun i _ => m - (intOf i).toNat)
  case atStart => exact ⟨0, Nat.zero_le _, rfl, fun j hj => absurd hj (by omega), HB2.out⟩
  case round =>
    obtain ⟨j, hj, rfl, hnb, hbr⟩ := hrel
    have HNB := hide hnb
    have HB := hide hbr
    clear hnb
    by_cases hlt : j < m
    · obtain ⟨b, o, rfl, hb, g0, g1, g2, g3, g4⟩ := (H2.out.below hbr).at_ hlt
      obtain ⟨X, hX⟩ : ∃ X, nthC M j = X := ⟨_, rfl⟩
      rw [hX] at g0 g1 g2 g3 g4
      have F1 := hide (fun w h => find_any A n c L X.k w (by have := HS.out; omega) h)
      unfold fndV at F1
      obtain ⟨p1, hp1⟩ : ∃ q, (fnd L X.k).isSome = q := ⟨_, rfl⟩
      obtain ⟨v1, hv1⟩ : ∃ q, (fnd L X.k).getD [] = q := ⟨_, rfl⟩
      obtain ⟨q, hq⟩ : ∃ q, (v1 == X.was) = q := ⟨_, rfl⟩
      obtain ⟨p2, hp2⟩ : ∃ q, X.had = q := ⟨_, rfl⟩
      have e1 : unfit L (nthC M j) = (!q || p1 != p2) := by rw [hX, unfit, hp1, hv1, hq, hp2]
      rw [hp1, hv1] at F1
      rw [hp2] at g3
      have E1 := hide e1
      have jm : (j : Int) < (m : Int) := by omega
      have j0 : (0 : Int) ≤ (j : Int) := by omega
      clear hbr hX hb hp1 hv1 hp2 e1 g2 g4
      cases q <;> cases p1 <;> cases p2
      all_goals (
        go_wp2_with (
          go_at_call 41
          refine (F1.out _ (H.out.below HB.out)).mono ?_
          rintro r w6 ⟨rfl, rfl⟩)
        first
          | (go_ret2
             have HT2 := HT.out
             rw [if_pos (anyC_no (k := j) (by rw [HM.out]; exact hlt) E1.out)] at HT2
             rw [← HT2]
             exact ⟨_, rfl, SP.nil _, HB.out⟩)
          | (go_roundw
             case rel =>
               refine ⟨j + 1, by omega, by go_num, fun i hi => ?_, HB.out⟩
               rcases Nat.lt_or_ge i j with h1 | h1
               · exact HNB.out i h1
               · obtain rfl : i = j := by omega
                 exact E1.out
             case measure => simp [intOf]; omega))
    · obtain rfl : j = m := by omega
      obtain ⟨K, hK⟩ : ∃ K, kys (L.map Pr.k) (M.map Ch.k) = K := ⟨_, rfl⟩
      have hKl : K.length ≤ 500 := by
        have := kys_len (L.map Pr.k) (M.map Ch.k)
        rw [hK, List.length_map, List.length_map, HL.out, HM.out] at this
        have := HS.out
        omega
      have HK := hide hK
      obtain ⟨R, hR⟩ : ∃ R, K.flatMap (rap L M) = R := ⟨_, rfl⟩
      have HX := hide hR
      have hT2 := HT.out
      rw [if_neg (by rw [anyC_yes (fun i hi => HNB.out i (by rw [← HM.out]; exact hi))]; simp), hK, hR] at hT2
      have HTT := hide hT2
      clear hK hR hT2 hbr HNB HT
      go_wp2_with (first
        | (go_at_call 43
           refine (of_any A n c L _ (by have := HS.out; omega) (H.out.below HB.out)).mono ?_
           rintro r w3 ⟨v, rfl, ⟨A1, n1, c1, rfl, _, hs3⟩, hb3⟩
           have S3 := hide hs3
           have HB3 := hide (Below.then_ HB.out hb3)
           clear hb3 hs3)
        | (go_at_call 44
           refine (ofAll_any B j d M w3 (by have := HS.out; omega) (H2.out.below HB3.out)).mono ?_
           rintro r w4 ⟨v, rfl, ⟨B1, m1, d1, rfl, _, hs4⟩, hb4⟩
           have S4 := hide hs4
           have S3 := hide (S3.out.below hb4)
           have HB4 := hide (Below.then_ HB3.out hb4)
           clear hb4 hs4)
        | (go_at_call 42
           refine (keys_any A1 n1 c1 _ B1 m1 d1 _ w4 (by have := HS.out; rw [← S3.out.len, ← S4.out.len, List.length_map, List.length_map, HL.out, HM.out]; exact this) S3.out S4.out).mono ?_
           rintro r w5 ⟨v, rfl, ⟨KA, kn, kc, rfl, _, hs5⟩, hb5⟩
           rw [HK.out] at hs5
           have HB5 := hide (Below.then_ HB4.out hb5)
           have hkn := hs5.len
           subst hkn
           have KS := hide hs5
           have hsz5 := HB5.out.size
           clear hb5 hs5))
      go_loopw [10, 12] (fun s i wr => ∃ (j : Nat) (X : Option Addr) (d' : Nat) (O : List Pr), j ≤ K.length ∧ i = .int .i64 j ∧ s = .slice X O.length d' ∧ wr.ownsRow w5.heap.size 53 2 (.slice X O.length d') O.length (prs O) ∧ O.length ≤ j ∧ O ++ (K.drop j).flatMap (rap L M) = R ∧ Below w5.heap.size w5 wr ∧ Below w.heap.size w wr) (fun _ i _ => K.length - (intOf i).toNat)
      case atStart => exact ⟨0, none, 0, [], Nat.zero_le _, rfl, rfl, World.ownsRow_nil _ _ _ _, Nat.le_refl _, by have := HX.out; simpa using this, Below.refl _ _, HB5.out⟩
      case round =>
        obtain ⟨i, X, d', O, hi, rfl, rfl, hown, hol, hR, hb5, hbs⟩ := hrel
        have OW := hide hown
        have HBS := hide hbs
        have H5 := hide hb5
        have hsz := hbs.size
        have hsz6 := hb5.size
        clear hown
        by_cases hlt2 : i < K.length
        · obtain ⟨b, o, rfl, hb, c0⟩ := KS.out.at_ hlt2
          obtain ⟨x, hx⟩ : ∃ x, nthS K i = x := ⟨_, rfl⟩
          rw [hx] at c0
          have CC := hide c0
          have BL := hide hb
          have g0 := (hb5.cell (p := ⟨b, o + i, none⟩) hb).trans c0
          rw [drop_s K i hlt2, hx, List.flatMap_cons] at hR
          have F1 := hide (fun w h => find_any A n c L x w (by have := HS.out; omega) h)
          have CH := hide (fun w h => change_any B j d M x w (by have := HS.out; omega) h)
          unfold fndV at F1
          unfold chgV chV at CH
          obtain ⟨p1, hp1⟩ : ∃ q, (fnd L x).isSome = q := ⟨_, rfl⟩
          obtain ⟨v1, hv1⟩ : ∃ q, (fnd L x).getD [] = q := ⟨_, rfl⟩
          obtain ⟨C, hC⟩ : ∃ C, (chg M x).getD ch0 = C := ⟨_, rfl⟩
          obtain ⟨q, hq⟩ : ∃ q, (chg M x).isSome = q := ⟨_, rfl⟩
          have e1 : rap L M x = if (if q = true then (C.now, C.has) else (v1, p1)).2 = true then [⟨x, (if q = true then (C.now, C.has) else (v1, p1)).1⟩] else [] := by
            rw [rap, rap1, hp1, hv1, hC, hq]
          rw [e1] at hR
          rw [hp1, hv1] at F1
          rw [hC, hq] at CH
          have KR := hide hR
          have kn : (i : Int) < (K.length : Int) := by omega
          have k0 : (0 : Int) ≤ (i : Int) := by omega
          obtain ⟨Ck, Cw, Cn, Chd, Chs⟩ := C
          dsimp only at CH KR
          clear hbs hb5 hx hR c0 hb hp1 hv1 hC hq e1
          cases q
          · obtain ⟨Z, hZ⟩ : ∃ Z : Pr, ⟨x, v1⟩ = Z := ⟨_, rfl⟩
            have KR2 := hide (show O ++ ((if p1 = true then [Z] else []) ++ (K.drop (i + 1)).flatMap (rap L M)) = R by rw [← hZ]; exact KR.out)
            have NW := hide (fun w : World => show Rd ((w.alloc (.cells #[.string ⟨Ck.toArray⟩, .string ⟨Cw.toArray⟩, .string ⟨Cn.toArray⟩, .bool Chd, .bool Chs] 71)).alloc (.cells #[.string ⟨x.toArray⟩, .string ⟨v1.toArray⟩] 53)) (some ⟨w.heap.size + 1, 0, none⟩) 1 2 (prs [Z]) by
              rw [← hZ]
              exact (Vk.two_ w 71 53 [.string ⟨Ck.toArray⟩, .string ⟨Cw.toArray⟩, .string ⟨Cn.toArray⟩, .bool Chd, .bool Chs] [.string ⟨x.toArray⟩, .string ⟨v1.toArray⟩]).rd 2 1 rfl)
            clear hZ
            cases p1
            all_goals (
              go_wp2_with (first
                | (go_at_call 41
                   refine (F1.out _ (H.out.below HBS.out)).mono ?_
                   rintro r w6 ⟨rfl, rfl⟩)
                | (go_at_call 45
                   refine (CH.out _ (H2.out.below HBS.out)).mono ?_
                   rintro r w7 ⟨rfl, hb7⟩
                   have HB7 := hide (Below.then_ HBS.out hb7)
                   have H57 := hide (Below.then_ H5.out hb7)
                   have OW7 := hide ((own_below OW.out hb7).alloc (.cells #[.string ⟨Ck.toArray⟩, .string ⟨Cw.toArray⟩, .string ⟨Cn.toArray⟩, .bool Chd, .bool Chs] 71))
                   have g7 := al_cell ((H57.out.cell (p := ⟨b, o + i, none⟩) BL.out).trans CC.out) (.cells #[.string ⟨Ck.toArray⟩, .string ⟨Cw.toArray⟩, .string ⟨Cn.toArray⟩, .bool Chd, .bool Chs] 71)
                   have hsz7 := HB7.out.size
                   have hsz8 := H57.out.size
                   have HB8 := hide (Below.al HB7.out (.cells #[.string ⟨Ck.toArray⟩, .string ⟨Cw.toArray⟩, .string ⟨Cn.toArray⟩, .bool Chd, .bool Chs] 71))
                   have H58 := hide (Below.al H57.out (.cells #[.string ⟨Ck.toArray⟩, .string ⟨Cw.toArray⟩, .string ⟨Cn.toArray⟩, .bool Chd, .bool Chs] 71))
                   clear hb7)
                | ((with_reducible show wpList _ _ _ (⟨some 100, _, _, _, _, _⟩ :: _) _ _)
                   go_loud (
                   refine wpList_app rfl (.tmp 92) (.tmp 99) 22 rfl w5.heap.size 53 (prV pr0) 2 32 Try.underlying22 info53 rfl (by omega) X d' O.length (prs O) rfl (OW7.out.alloc _) _ 1 _ (prs [Z]) rfl (NW.out _) (prs_one _) (by unfold maxLen; omega) (by omega) (by simp; omega) ?_
                   intro B' d2 w' hown hgr hz
                   have HY := hide ((Below.al HB8.out _).grown hgr (Below.al HB8.out _).size (fun j hj => by have := (own_lt OW.out j hj).1; omega))
                   have HY5 := hide ((Below.al H58.out _).grown hgr (Below.al H58.out _).size (fun j hj => by have := (own_lt OW.out j hj).1; omega))
                   rw [← prs_app] at hown
                   have OY := hide hown
                   clear hown hgr hz)))
              go_roundw
              case rel => first
                | exact ⟨i + 1, B', d2, O ++ [Z], by omega, by go_num, by simp, by simpa using OY.out, by simp; omega, by have := KR2.out; simpa using this, HY5.out, HY.out⟩
                | exact ⟨i + 1, X, d', O, by omega, by go_num, rfl, OW7.out, by omega, by have := KR2.out; simpa using this, H58.out, HB8.out⟩
              case measure => simp [intOf]; omega)
          · obtain ⟨Z, hZ⟩ : ∃ Z : Pr, ⟨x, Cn⟩ = Z := ⟨_, rfl⟩
            have KR2 := hide (show O ++ ((if Chs = true then [Z] else []) ++ (K.drop (i + 1)).flatMap (rap L M)) = R by rw [← hZ]; exact KR.out)
            have NW := hide (fun w : World => show Rd (w.alloc (.cells #[.string ⟨x.toArray⟩, .string ⟨Cn.toArray⟩] 53)) (some ⟨w.heap.size, 0, none⟩) 1 2 (prs [Z]) by
              rw [← hZ]
              exact (Vk.new w 53 [.string ⟨x.toArray⟩, .string ⟨Cn.toArray⟩]).rd 2 1 rfl)
            clear hZ
            go_wp2_with (first
              | (go_at_call 41
                 refine (F1.out _ (H.out.below HBS.out)).mono ?_
                 rintro r w6 ⟨rfl, rfl⟩)
              | (go_at_call 45
                 refine (CH.out _ (H2.out.below HBS.out)).mono ?_
                 rintro r w7 ⟨rfl, hb7⟩
                 have HB7 := hide (Below.then_ HBS.out hb7)
                 have H57 := hide (Below.then_ H5.out hb7)
                 have g7 := al_cell ((H57.out.cell (p := ⟨b, o + i, none⟩) BL.out).trans CC.out)
                 have hsz7 := HB7.out.size
                 have hsz8 := H57.out.size
                 have OW7 := hide (own_below OW.out hb7)
                 clear hb7))
            obtain ⟨W, hW⟩ : ∃ W, W = w7.alloc (.cells #[.string ⟨Ck.toArray⟩, .string ⟨Cw.toArray⟩, .string ⟨Cn.toArray⟩, .bool Chd, .bool Chs] 71) := ⟨_, rfl⟩
            have HB8 := hide (show Below w.heap.size w W by rw [hW]; exact Below.al HB7.out _)
            have H58 := hide (show Below w5.heap.size w5 W by rw [hW]; exact Below.al H57.out _)
            have OW8 := hide (show W.ownsRow w5.heap.size 53 2 (.slice X O.length d') O.length (prs O) by rw [hW]; exact OW7.out.alloc _)
            have gW : W.cell? ⟨b, o + i, none⟩ = some (.string ⟨x.toArray⟩) := by rw [hW]; exact g7 _
            obtain ⟨d0, d1, d2, d3, d4, _⟩ := (show Vk W w7.heap.size 71 [.string ⟨Ck.toArray⟩, .string ⟨Cw.toArray⟩, .string ⟨Cn.toArray⟩, .bool Chd, .bool Chs] by rw [hW]; exact Vk.new w7 71 _).five
            have hszW := H58.out.size
            rw [← hW]
            clear hW g7
            go_quiet (fail)
            all_goals cases Chs
            all_goals (
              go_wp2_with (
                (with_reducible show wpList _ _ _ (⟨some 100, _, _, _, _, _⟩ :: _) _ _)
                go_loud (
                refine wpList_app rfl (.tmp 92) (.tmp 99) 22 rfl w5.heap.size 53 (prV pr0) 2 32 Try.underlying22 info53 rfl (by omega) X d' O.length (prs O) rfl (OW8.out.alloc _) _ 1 _ (prs [Z]) rfl (NW.out _) (prs_one _) (by unfold maxLen; omega) (by omega) (by simp; omega) ?_
                intro B' d2 w' hown hgr hz
                have HY := hide ((Below.al (Below.drewN' HB8.out _) _).grown hgr (Below.al (Below.drewN' HB8.out _) _).size (fun j hj => by have := (own_lt OW.out j hj).1; omega))
                have HY5 := hide ((Below.al (Below.drewN' H58.out _) _).grown hgr (Below.al (Below.drewN' H58.out _) _).size (fun j hj => by have := (own_lt OW.out j hj).1; omega))
                rw [← prs_app] at hown
                have OY := hide hown
                clear hown hgr hz))
              go_roundw
              case rel => first
                | exact ⟨i + 1, B', d2, O ++ [Z], by omega, by go_num, by simp, by simpa using OY.out, by simp; omega, by have := KR2.out; simpa using this, HY5.out, HY.out⟩
                | exact ⟨i + 1, X, d', O, by omega, by go_num, rfl, OW8.out, by omega, by have := KR2.out; simpa using this, Below.drewN' H58.out _, Below.drewN' HB8.out _⟩
              case measure => simp [intOf]; omega)
        · obtain rfl : i = K.length := by omega
          rw [List.drop_of_length_le (Nat.le_refl _), List.flatMap_nil, List.append_nil] at hR
          have KR := hide hR
          clear hR
          go_wp2_with fail
          go_ret2
          rw [← HTT.out]
          exact ⟨_, rfl, ⟨X, O.length, d', rfl, (own_capN OW.out).1, by rw [← KR.out]; exact Rp.of_own OW.out⟩, HBS.out⟩
end Go.Proofs.Ytcmlegpfapomnaa

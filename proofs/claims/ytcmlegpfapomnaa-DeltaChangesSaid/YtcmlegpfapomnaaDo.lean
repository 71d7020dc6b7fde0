/- The walk of the document's Between. -/
import Derived.Test.YtcmlegpfapomnaaDl2
namespace Go.Proofs.Ytcmlegpfapomnaa
open Go.RowKit Go.Instr
open Go.Op (bytesLess)

/-- What became of a key. -/
def rbc (A B : List Pr) (x : Sx) : Ch := ⟨x, (fnd A x).getD [], (fnd B x).getD [], (fnd A x).isSome, (fnd B x).isSome⟩
def rbt (A B : List Pr) (x : Sx) : List Ch := if ((rbc A B x).was == (rbc A B x).now && (rbc A B x).had == (rbc A B x).has) = true then [] else [rbc A B x]
/-- How two views part, as the document says. -/
def rbtw (A B : List Pr) : List Ch := if ris (A.map Pr.k) = true ∧ ris (B.map Pr.k) = true then (kys (A.map Pr.k) (B.map Pr.k)).flatMap (rbt A B) else []
set_option maxRecDepth 100000 in
set_option maxHeartbeats 8000000 in
theorem rbtw_any (A : Option Addr) (n c : Nat) (L : List Pr) (B : Option Addr) (m d : Nat) (M : List Pr) (w : World) (hs : n + m ≤ 500) (hA : Rp w A n L) (hB : Rp w B m M) :
    Calls Try.prog 20 #[.slice A n c, .slice B m d] w fun e w' => ∃ v, e = .returned v ∧ SC w' v (rbtw L M) ∧ Below w.heap.size w w' := by
  have H := hide hA
  have H2 := hide hB
  have HS := hide hs
  have HL := hide hA.len
  have HM := hide hB.len
  obtain ⟨R, hR⟩ : ∃ R, ris (L.map Pr.k) = R := ⟨_, rfl⟩
  obtain ⟨S, hS⟩ : ∃ S, ris (M.map Pr.k) = S := ⟨_, rfl⟩
  have HR := hide hR
  have HSS := hide hS
  clear hA hB hs hR hS
  cases R
  · go_enter Try.func20, Try.ntmps20
    go_wp2_with (
      go_at_call_of 8 A
      refine (view_any A n c L w (by have := HS.out; omega) H.out).mono ?_
      rintro r w1 ⟨rfl, hb1⟩
      have HB1 := hide hb1
      clear hb1
      rw [HR.out])
    go_ret
    refine ⟨_, rfl, ?_, HB1.out⟩
    rw [rbtw, if_neg (by rw [HR.out]; simp)]
    exact SC.nil _
  cases S
  · go_enter Try.func20, Try.ntmps20
    go_wp2_with (first
      | (go_at_call_of 8 A
         refine (view_any A n c L w (by have := HS.out; omega) H.out).mono ?_
         rintro r w1 ⟨rfl, hb1⟩
         have HB1 := hide hb1
         clear hb1
         rw [HR.out])
      | (go_at_call_of 8 B
         refine (view_any B m d M w1 (by have := HS.out; omega) (H2.out.below HB1.out)).mono ?_
         rintro r w2 ⟨rfl, hb2⟩
         have HB2 := hide (Below.then_ HB1.out hb2)
         clear hb2
         rw [HSS.out]))
    go_ret
    refine ⟨_, rfl, ?_, HB2.out⟩
    rw [rbtw, if_neg (by rw [HSS.out]; simp)]
    exact SC.nil _
  obtain ⟨K, hK⟩ : ∃ K, kys (L.map Pr.k) (M.map Pr.k) = K := ⟨_, rfl⟩
  have hKl : K.length ≤ 500 := by
    have := kys_len (L.map Pr.k) (M.map Pr.k)
    rw [hK, List.length_map, List.length_map, HL.out, HM.out] at this
    have := HS.out
    omega
  have HK := hide hK
  obtain ⟨R, hR⟩ : ∃ R, K.flatMap (rbt L M) = R := ⟨_, rfl⟩
  have HX := hide hR
  rw [show rbtw L M = R by rw [rbtw, if_pos ⟨HR.out, HSS.out⟩, hK, hR]]
  clear hK hR
  go_enter Try.func20, Try.ntmps20
  go_wp2_with (first
    | (go_at_call_of 8 A
       refine (view_any A n c L w (by have := HS.out; omega) H.out).mono ?_
       rintro r w1 ⟨rfl, hb1⟩
       have HB1 := hide hb1
       clear hb1
       rw [HR.out])
    | (go_at_call_of 8 B
       refine (view_any B m d M w1 (by have := HS.out; omega) (H2.out.below HB1.out)).mono ?_
       rintro r w2 ⟨rfl, hb2⟩
       have HB2 := hide (Below.then_ HB1.out hb2)
       clear hb2
       rw [HSS.out])
    | (go_at_call_of 43 A
       refine (of_any A n c L w2 (by have := HS.out; omega) (H.out.below HB2.out)).mono ?_
       rintro r w3 ⟨v, rfl, ⟨A1, n1, c1, rfl, _, hs3⟩, hb3⟩
       have S3 := hide hs3
       have HB3 := hide (Below.then_ HB2.out hb3)
       clear hb3 hs3)
    | (go_at_call_of 43 B
       refine (of_any B m d M w3 (by have := HS.out; omega) (H2.out.below HB3.out)).mono ?_
       rintro r w4 ⟨v, rfl, ⟨B1, m1, d1, rfl, _, hs4⟩, hb4⟩
       have S4 := hide hs4
       have S3 := hide (S3.out.below hb4)
       have HB4 := hide (Below.then_ HB3.out hb4)
       clear hb4 hs4)
    | (go_at_call 42
       refine (keys_any A1 n1 c1 _ B1 m1 d1 _ w4 (by have := HS.out; rw [← S3.out.len, ← S4.out.len, List.length_map, List.length_map, HL.out, HM.out]; exact this) S3.out S4.out).mono ?_
       rintro r w5 ⟨v, rfl, ⟨KA, kn, kc, rfl, _, hs5⟩, hb5⟩
       rw [HK.out] at hs5
       have HB5 := hide (Below.then_ HB4.out hb5)
       have hkn := hs5.len
       subst hkn
       have KS := hide hs5
       have hsz5 := HB5.out.size
       clear hb5 hs5))
  go_loopw [5, 7] (fun s i wr => ∃ (j : Nat) (X : Option Addr) (d' : Nat) (O : List Ch), j ≤ K.length ∧ i = .int .i64 j ∧ s = .slice X O.length d' ∧ wr.ownsRow w5.heap.size 71 5 (.slice X O.length d') O.length (chs O) ∧ O.length ≤ j ∧ O ++ (K.drop j).flatMap (rbt L M) = R ∧ Below w5.heap.size w5 wr ∧ Below w.heap.size w wr) (fun _ i _ => K.length - (intOf i).toNat)
  case atStart => exact ⟨0, none, 0, [], Nat.zero_le _, rfl, rfl, World.ownsRow_nil _ _ _ _, Nat.le_refl _, by have := HX.out; simpa using this, Below.refl _ _, HB5.out⟩
  case round =>
    obtain ⟨j, X, d', O, hj, rfl, rfl, hown, hol, hR, hb5, hbs⟩ := hrel
    have OW := hide hown
    have HBS := hide hbs
    have H5 := hide hb5
    have hsz := hbs.size
    have hsz6 := hb5.size
    clear hown
    by_cases hlt : j < K.length
    · obtain ⟨b, o, rfl, hb, c0⟩ := KS.out.at_ hlt
      obtain ⟨x, hx⟩ : ∃ x, nthS K j = x := ⟨_, rfl⟩
      rw [hx] at c0
      have g0 := (hb5.cell (p := ⟨b, o + j, none⟩) hb).trans c0
      rw [drop_s K j hlt, hx, List.flatMap_cons] at hR
      have F1 := hide (fun w h => find_any A n c L x w (by have := HS.out; omega) h)
      have F2 := hide (fun w h => find_any B m d M x w (by have := HS.out; omega) h)
      unfold fndV at F1 F2
      obtain ⟨p1, hp1⟩ : ∃ q, (fnd L x).isSome = q := ⟨_, rfl⟩
      obtain ⟨p2, hp2⟩ : ∃ q, (fnd M x).isSome = q := ⟨_, rfl⟩
      obtain ⟨v1, hv1⟩ : ∃ q, (fnd L x).getD [] = q := ⟨_, rfl⟩
      obtain ⟨v2, hv2⟩ : ∃ q, (fnd M x).getD [] = q := ⟨_, rfl⟩
      obtain ⟨q, hq⟩ : ∃ q, (v1 == v2) = q := ⟨_, rfl⟩
      obtain ⟨Z, hZ⟩ : ∃ Z : Ch, ⟨x, v1, v2, p1, p2⟩ = Z := ⟨_, rfl⟩
      have e1 : rbt L M x = if (q && p1 == p2) = true then [] else [Z] := by
        rw [rbt, rbc]
        dsimp only
        rw [hp1, hp2, hv1, hv2, hq, ← hZ]
      rw [e1] at hR
      rw [hp1, hv1] at F1
      rw [hp2, hv2] at F2
      have KR := hide hR
      have NW := hide (show Rd (wr.alloc (.cells #[.string ⟨x.toArray⟩, .string ⟨v1.toArray⟩, .string ⟨v2.toArray⟩, .bool p1, .bool p2] 71)) (some ⟨wr.heap.size, 0, none⟩) 1 5 (chs [Z]) by
        rw [← hZ]
        exact (Vk.new wr 71 [.string ⟨x.toArray⟩, .string ⟨v1.toArray⟩, .string ⟨v2.toArray⟩, .bool p1, .bool p2]).rd 5 1 rfl)
      have kn : (j : Int) < (K.length : Int) := by omega
      have k0 : (0 : Int) ≤ (j : Int) := by omega
      have hKl2 := hKl
      clear hbs hb5 hx hR c0 hb hp1 hp2 hv1 hv2 hZ e1
      cases p1 <;> cases p2 <;> cases q
      all_goals first
        | (
          go_wp2_with (first
            | (go_at_call_of 41 A
               refine (F1.out _ (H.out.below HBS.out)).mono ?_
               rintro r w6 ⟨rfl, rfl⟩)
            | (go_at_call_of 41 B
               refine (F2.out _ (H2.out.below HBS.out)).mono ?_
               rintro r w7 ⟨rfl, rfl⟩)
            | ((with_reducible show wpList _ _ _ (⟨some 68, _, _, _, _, _⟩ :: _) _ _)
               go_loud (
               refine wpList_app rfl (.tmp 57) (.tmp 67) 38 rfl w5.heap.size 71 (chV ch0) 5 56 Try.underlying38 info71 rfl (by omega) X d' O.length (chs O) rfl (OW.out.alloc _) _ 1 _ (chs [Z]) rfl NW.out (chs_one _) (by unfold maxLen; omega) (by omega) (by simp; omega) ?_
               intro B' d2 w' hown hgr hz
               have HY := hide ((Below.al HBS.out _).grown hgr (Below.al HBS.out _).size (fun j hj => by have := (own_lt OW.out j hj).1; omega))
               have HY5 := hide ((Below.al H5.out _).grown hgr (Below.al H5.out _).size (fun j hj => by have := (own_lt OW.out j hj).1; omega))
               rw [← chs_app] at hown
               have OY := hide hown
               clear hown hgr hz)))
          go_roundw
          case rel => first
            | exact ⟨j + 1, B', d2, O ++ [Z], by omega, by go_num, by simp, by simpa using OY.out, by simp; omega, by have := KR.out; simpa using this, HY5.out, HY.out⟩
            | exact ⟨j + 1, X, d', O, by omega, by go_num, rfl, OW.out, by omega, by have := KR.out; simpa using this, H5.out, HBS.out⟩
          case measure => simp [intOf]; omega)
    · obtain rfl : j = K.length := by omega
      rw [List.drop_of_length_le (Nat.le_refl _), List.flatMap_nil, List.append_nil] at hR
      have KR := hide hR
      clear hR
      go_wp2_with fail
      go_ret
      exact ⟨_, rfl, ⟨X, O.length, d', rfl, (own_capN OW.out).1, by rw [← KR.out]; exact Rch.of_own OW.out⟩, HBS.out⟩
end Go.Proofs.Ytcmlegpfapomnaa

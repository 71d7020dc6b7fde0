/- The walk of the document's Clash. -/
import Derived.Test.YtcmlegpfapomnaaDn
namespace Go.Proofs.Ytcmlegpfapomnaa
open Go.RowKit Go.Instr
open Go.Op (bytesLess)

set_option maxHeartbeats 4000000 in
theorem rclash_any (A : Option Addr) (n c : Nat) (L : List Ch) (B : Option Addr) (m d : Nat) (M : List Ch) (w : World) (hn : n ≤ 500) (hm : m ≤ 500) (hA : Rch w A n L) (hB : Rch w B m M) :
    Calls Try.prog 22 #[.slice A n c, .slice B m d] w fun e w' => ∃ v, e = .returned v ∧ SS w' v (cls L M) ∧ Below w.heap.size w w' := by
  have H := hide hA
  have H2 := hide hB
  have HL := hide hA.len
  have HM := hide hB.len
  obtain ⟨R, hR⟩ : ∃ R, cls L M = R := ⟨_, rfl⟩
  rw [hR]
  have HR := hide hR
  clear hA hB hR
  go_enter Try.func22, Try.ntmps22
  go_wp2_with fail
  go_loopw [5, 6] (fun s i wr => ∃ (j : Nat) (X : Option Addr) (d' : Nat) (O : List Sx), j ≤ n ∧ i = .int .i64 j ∧ s = .slice X O.length d' ∧ wr.ownsRow w.heap.size 9 1 (.slice X O.length d') O.length (sts O) ∧ O.length ≤ j ∧ O ++ cls (L.drop j) M = R ∧ Below w.heap.size w wr) (fun _ i _ => n - (intOf i).toNat)
  case atStart => exact ⟨0, none, 0, [], Nat.zero_le _, rfl, rfl, World.ownsRow_nil _ _ _ _, Nat.le_refl _, by have := HR.out; simpa using this, Below.refl _ _⟩
  case round =>
    obtain ⟨j, X, d', O, hj, rfl, rfl, hown, hol, hR, hbs⟩ := hrel
    have OW := hide hown
    have HBS := hide hbs
    have hsz := hbs.size
    clear hown
    by_cases hlt : j < n
    · obtain ⟨b, o, rfl, hb, c0, c1, c2, c3, c4⟩ := H.out.at_ hlt
      obtain ⟨T, hT⟩ : ∃ T, nthC L j = T := ⟨_, rfl⟩
      rw [hT] at c0
      have g0 := (hbs.cell (p := ⟨b, o + j * 5, none⟩) hb).trans c0
      have CC := hide c0
      have BL := hide hb
      have CH := hide (fun w h => change_any B m d M T.k w (by omega) h)
      obtain ⟨C, hC⟩ : ∃ C, (chg M T.k).getD ch0 = C := ⟨_, rfl⟩
      obtain ⟨q, hq⟩ : ∃ q, (chg M T.k).isSome = q := ⟨_, rfl⟩
      have eR : O ++ (if q = true then [T.k] else []) ++ cls (L.drop (j + 1)) M = R := by
        rw [← hR, drop_c L j (by rw [HL.out]; exact hlt), hT, cls, cls, List.map_cons, List.filter_cons, hq]
        cases q <;> simp
      have KR := hide eR
      unfold chgV chV at CH
      rw [hC, hq] at CH
      have kn : (j : Int) < (n : Int) := by omega
      have k0 : (0 : Int) ≤ (j : Int) := by omega
      clear hbs hT hR eR hq hC c0 c1 c2 c3 c4 hb
      cases q
      · go_wp2_with (
          go_at_call 45
          go_loud (
          refine (CH.out _ (H2.out.below HBS.out)).mono ?_
          rintro r w1 ⟨rfl, hb1⟩
          have HB1 := hide (Below.then_ HBS.out hb1)
          have OW1 := hide (own_below OW.out hb1)
          clear hb1))
        go_roundw
        case rel => exact ⟨j + 1, X, d', O, by omega, by go_num, rfl, OW1.out.alloc _, by omega, by have := KR.out; simpa using this, Below.al HB1.out _⟩
        case measure => simp [intOf]; omega
      · go_wp2_with (first
          | (go_at_call 45
             go_loud (
             refine (CH.out _ (H2.out.below HBS.out)).mono ?_
             rintro r w1 ⟨rfl, hb1⟩
             have HB1 := hide (Below.then_ HBS.out hb1)
             have OW1 := hide (own_below OW.out hb1)
             have g1 := fun ob => al_cell ((HB1.out.cell (p := ⟨b, o + j * 5, none⟩) BL.out).trans CC.out) ob
             have hsz1 := HB1.out.size
             clear hb1))
          | ((with_reducible show wpList _ _ _ (⟨some 33, _, _, _, _, _⟩ :: _) _ _)
             go_loud (
             refine wpList_app rfl (.tmp 26) (.tmp 32) 36 rfl w.heap.size 9 (.string ⟨#[]⟩) 1 16 Try.underlying36 info9 rfl (by omega) X d' O.length (sts O) rfl ((OW1.out.alloc _).alloc _) _ 1 _ (sts [T.k]) rfl ((Vk.two_ w1 71 9 [.string ⟨C.k.toArray⟩, .string ⟨C.was.toArray⟩, .string ⟨C.now.toArray⟩, .bool C.had, .bool C.has] [.string ⟨T.k.toArray⟩]).rd 1 1 rfl) (sts_one _) (by unfold maxLen; omega) (by omega) (by simp; omega) ?_
             intro B' d2 w' hown hgr hz
             have HY := hide ((Below.al (Below.al HB1.out _) _).grown hgr (Below.al (Below.al HB1.out _) _).size (fun j hj => by have := (own_lt OW1.out j hj).1; omega))
             rw [← sts_app] at hown
             have OY := hide hown
             clear hown hgr hz)))
        go_roundw
        case rel => exact ⟨j + 1, B', d2, O ++ [T.k], by omega, by go_num, by simp, by simpa using OY.out, by simp; omega, by have := KR.out; simpa using this, HY.out⟩
        case measure => simp [intOf]; omega
    · obtain rfl : j = n := by omega
      rw [List.drop_of_length_le (Nat.le_of_eq HL.out), show cls [] M = [] from rfl, List.append_nil] at hR
      have KR := hide hR
      clear hR
      go_wp2_with fail
      go_ret
      exact ⟨_, rfl, ⟨X, O.length, d', rfl, (own_capN OW.out).1, by rw [← KR.out]; exact Rs.of_own OW.out⟩, HBS.out⟩
end Go.Proofs.Ytcmlegpfapomnaa

/- The walks of Between, Then, Apply. -/
import Derived.Test.YtcmlegpfapomnaaDg1
import Derived.Test.YtcmlegpfapomnaaDg2
import Derived.Test.YtcmlegpfapomnaaDg3
import Derived.Test.YtcmlegpfapomnaaDi
namespace Go.Proofs.Ytcmlegpfapomnaa
open Go.RowKit
open Go.Op (bytesLess)

theorem own_capN {w : World} {base : Nat} {e : TypeId} {size : Nat} {A : Option Addr} {n c : Nat} {xs : List Value} (h : w.ownsRow base e size (Value.slice A n c) n xs) : n ≤ c ∧ c ≤ maxLen := by
  rcases h.2 with ⟨h1, h2⟩ | ⟨g, cap, cur, h1, _, _, h2, h3, _⟩
  · injection h1 with h1 h3 h4
    subst h4
    exact ⟨by omega, Nat.zero_le _⟩
  · injection h1 with h1 h4 h5
    subst h5
    exact ⟨h2, h3⟩
theorem OutC.fresh (W : World) : OutC (W.alloc (.cells #[.slice none 0 0] 25)) W.heap.size [] := ⟨none, 0, 0, Vk.new W 25 [.slice none 0 0], World.ownsRow_nil _ _ _ _⟩
theorem OutP.fresh (W : World) : OutP (W.alloc (.cells #[.slice none 0 0] 22)) W.heap.size [] := ⟨none, 0, 0, Vk.new W 22 [.slice none 0 0], World.ownsRow_nil _ _ _ _⟩
/-- A slice of changes, of pairs. -/
def SC (w : World) (v : Value) (L : List Ch) : Prop := ∃ A n c, v = .slice A n c ∧ n ≤ c ∧ Rch w A n L
def SP (w : World) (v : Value) (L : List Pr) : Prop := ∃ A n c, v = .slice A n c ∧ n ≤ c ∧ Rp w A n L
theorem SC.nil (w : World) : SC w (.slice none 0 0) [] := ⟨none, 0, 0, rfl, Nat.le_refl _, Rch.none_ w none⟩
theorem SP.nil (w : World) : SP w (.slice none 0 0) [] := ⟨none, 0, 0, rfl, Nat.le_refl _, Rp.none_ w none⟩
theorem SC.below {w w' : World} {v : Value} {L : List Ch} (h : SC w v L) (hb : Below w.heap.size w w') : SC w' v L := by
  obtain ⟨A, n, c, h1, h2, h3⟩ := h
  exact ⟨A, n, c, h1, h2, h3.below hb⟩
theorem SP.below {w w' : World} {v : Value} {L : List Pr} (h : SP w v L) (hb : Below w.heap.size w w') : SP w' v L := by
  obtain ⟨A, n, c, h1, h2, h3⟩ := h
  exact ⟨A, n, c, h1, h2, h3.below hb⟩
/-- How two views part. -/
def btw (A B : List Pr) : List Ch := if ris (A.map Pr.k) = true ∧ ris (B.map Pr.k) = true then (gath beOk beOut [] (mrg Pr.k Pr.k A B)).getD [] else []
theorem be_some {C : Type} (O : List C) (out : Option Pr → Option Pr → List C) (l : List (Option Pr × Option Pr)) : ∃ o, gath beOk out O l = some o := by
  induction l generalizing O with
  | nil => exact ⟨O, by unfold gath; rfl⟩
  | cons a l ih =>
    obtain ⟨x, y⟩ := a
    obtain ⟨o, h⟩ := ih (O ++ out x y)
    exact ⟨o, by unfold gath; simpa [beOk] using h⟩
set_option maxHeartbeats 2000000 in
theorem btw_any (A : Option Addr) (n c : Nat) (L : List Pr) (B : Option Addr) (m d : Nat) (M : List Pr) (w : World) (hs : n + m ≤ 500) (hA : Rp w A n L) (hnc : n ≤ c) (hB : Rp w B m M) (hmd : m ≤ d) :
    Calls Try.prog 10 #[.slice A n c, .slice B m d] w fun e w' => ∃ v, e = .returned v ∧ SC w' v (btw L M) ∧ Below w.heap.size w w' := by
  have HA := hide hA
  have HB := hide hB
  have HS := hide hs
  have HC := hide hnc
  have HD := hide hmd
  obtain ⟨R, hR⟩ : ∃ R, ris (L.map Pr.k) = R := ⟨_, rfl⟩
  obtain ⟨S, hS⟩ : ∃ S, ris (M.map Pr.k) = S := ⟨_, rfl⟩
  have HR := hide hR
  have HSS := hide hS
  clear hA hB hs hnc hmd hR hS
  cases R
  · go_enter Try.func10, Try.ntmps10
    go_wp2_with (
      go_at_call 27
      refine (nthP_rising A n c L w (by have := HS.out; omega) HA.out).mono ?_
      rintro r w1 ⟨rfl, hb1⟩
      have HB1 := hide hb1
      clear hb1
      rw [HR.out])
    go_ret
    refine ⟨_, rfl, ?_, HB1.out⟩
    rw [btw, if_neg (by rw [HR.out]; simp)]
    exact SC.nil _
  · cases S
    · go_enter Try.func10, Try.ntmps10
      go_wp2_with (first
        | (go_at_call_of 27 A
           refine (nthP_rising A n c L w (by have := HS.out; omega) HA.out).mono ?_
           rintro r w1 ⟨rfl, hb1⟩
           have HB1 := hide hb1
           clear hb1
           rw [HR.out])
        | (go_at_call_of 27 B
           refine (nthP_rising B m d M w1 (by have := HS.out; omega) (HB.out.below HB1.out)).mono ?_
           rintro r w2 ⟨rfl, hb2⟩
           have HB2 := hide (Below.then_ HB1.out hb2)
           clear hb2
           rw [HSS.out]))
      go_ret
      refine ⟨_, rfl, ?_, HB2.out⟩
      rw [btw, if_neg (by rw [HSS.out]; simp)]
      exact SC.nil _
    · obtain ⟨o, ho⟩ := be_some [] beOut (mrg Pr.k Pr.k L M)
      have HO := hide ho
      clear ho
      go_enter Try.func10, Try.ntmps10
      go_wp2_with (first
        | (go_at_call_of 27 A
           refine (nthP_rising A n c L w (by have := HS.out; omega) HA.out).mono ?_
           rintro r w1 ⟨rfl, hb1⟩
           have HB1 := hide hb1
           clear hb1
           rw [HR.out])
        | (go_at_call_of 27 B
           refine (nthP_rising B m d M w1 (by have := HS.out; omega) (HB.out.below HB1.out)).mono ?_
           rintro r w2 ⟨rfl, hb2⟩
           have HB2 := hide (Below.then_ HB1.out hb2)
           clear hb2
           rw [HSS.out])
        | (go_at_call 29
           go_loud (
           refine (tog29 w _ w2.heap.size A n c L B m d M HB2.out.size (Below.al HB2.out _) HA.out HC.out HB.out HD.out HS.out (OutC.fresh w2)).mono ?_
           rintro r w3 ⟨rfl, hb3, hout⟩
           rw [HO.out]
           have HB3 := hide ((Below.al HB2.out (.cells #[.slice none 0 0] 25)).trans (hb3.mono HB2.out.size))
           obtain ⟨X, xn, xc, hv, hown⟩ := hout o HO.out
           obtain ⟨c0, f0⟩ := hv.one
           have HOW := hide hown
           clear hb3 hout hown)))
      go_ret
      refine ⟨_, rfl, ?_, HB3.out⟩
      rw [btw, if_pos ⟨HR.out, HSS.out⟩, HO.out]
      exact ⟨X, xn, xc, rfl, (own_capN HOW.out).1, Rch.of_own HOW.out⟩
/-- Two deltas as one; or what is wrong. -/
def thn (D E : List Ch) : List Ch × Int := if chk D ≠ 0 then ([], chk D) else if chk E ≠ 0 then ([], chk E) else match gath thenOk thenOut [] (mrg Ch.k Ch.k D E) with
  | some o => (o, 0)
  | none => ([], 11)
theorem chk_is (L : List Ch) : chk L = 12 ∨ chk L = 4 ∨ chk L = 0 := by
  unfold chk
  split
  · exact .inl rfl
  · split
    · exact .inr (.inl rfl)
    · exact .inr (.inr rfl)
set_option maxHeartbeats 2000000 in
theorem thn_any (A : Option Addr) (n c : Nat) (L : List Ch) (B : Option Addr) (m d : Nat) (M : List Ch) (w : World) (hs : n + m ≤ 500) (hA : Rch w A n L) (hnc : n ≤ c) (hB : Rch w B m M) (hmd : m ≤ d) :
    Calls Try.prog 11 #[.slice A n c, .slice B m d] w fun e w' => ∃ v, e = .returned (.tuple #[v, .int .i64 (thn L M).2]) ∧ SC w' v (thn L M).1 ∧ Below w.heap.size w w' := by
  have HA := hide hA
  have HB := hide hB
  have HS := hide hs
  have HC := hide hnc
  have HD := hide hmd
  obtain ⟨T, hT⟩ : ∃ T, thn L M = T := ⟨_, rfl⟩
  rw [hT]
  unfold thn at hT
  clear hA hB hs hnc hmd
  by_cases h0 : chk L = 0
  · rw [if_neg (by rw [h0]; simp)] at hT
    have K1 := hide h0
    clear h0
    by_cases h1 : chk M = 0
    · rw [if_neg (by rw [h1]; simp)] at hT
      have K2 := hide h1
      clear h1
      obtain ⟨G, hG⟩ : ∃ G, gath thenOk thenOut [] (mrg Ch.k Ch.k L M) = G := ⟨_, rfl⟩
      rw [hG] at hT
      have HG := hide hG
      have HT := hide hT
      clear hT hG
      cases G with
      | none =>
        go_enter Try.func11, Try.ntmps11
        go_wp2_with (first
          | (go_at_call_of 13 A
             refine (check_any A n c L w (by have := HS.out; omega) HA.out).mono ?_
             rintro r w1 ⟨rfl, hb1⟩
             have HB1 := hide hb1
             clear hb1
             rw [K1.out])
          | (go_at_call_of 13 B
             refine (check_any B m d M w1 (by have := HS.out; omega) (HB.out.below HB1.out)).mono ?_
             rintro r w2 ⟨rfl, hb2⟩
             have HB2 := hide (Below.then_ HB1.out hb2)
             clear hb2
             rw [K2.out])
          | (go_at_call 32
             go_loud (
             refine (tog32 w _ w2.heap.size A n c L B m d M HB2.out.size (Below.al HB2.out _) HA.out HC.out HB.out HD.out HS.out (OutC.fresh w2)).mono ?_
             rintro r w3 ⟨rfl, hb3, hout⟩
             rw [HG.out]
             have HB3 := hide ((Below.al HB2.out (.cells #[.slice none 0 0] 25)).trans (hb3.mono HB2.out.size))
             clear hb3 hout)))
        go_ret2
        rw [← HT.out]
        exact ⟨_, rfl, SC.nil _, HB3.out⟩
      | some o =>
        go_enter Try.func11, Try.ntmps11
        go_wp2_with (first
          | (go_at_call_of 13 A
             refine (check_any A n c L w (by have := HS.out; omega) HA.out).mono ?_
             rintro r w1 ⟨rfl, hb1⟩
             have HB1 := hide hb1
             clear hb1
             rw [K1.out])
          | (go_at_call_of 13 B
             refine (check_any B m d M w1 (by have := HS.out; omega) (HB.out.below HB1.out)).mono ?_
             rintro r w2 ⟨rfl, hb2⟩
             have HB2 := hide (Below.then_ HB1.out hb2)
             clear hb2
             rw [K2.out])
          | (go_at_call 32
             go_loud (
             refine (tog32 w _ w2.heap.size A n c L B m d M HB2.out.size (Below.al HB2.out _) HA.out HC.out HB.out HD.out HS.out (OutC.fresh w2)).mono ?_
             rintro r w3 ⟨rfl, hb3, hout⟩
             rw [HG.out]
             have HB3 := hide ((Below.al HB2.out (.cells #[.slice none 0 0] 25)).trans (hb3.mono HB2.out.size))
             obtain ⟨X, xn, xc, hv, hown⟩ := hout o HG.out
             obtain ⟨c0, f0⟩ := hv.one
             have HOW := hide hown
             clear hb3 hout hown)))
        go_ret2
        rw [← HT.out]
        exact ⟨_, rfl, ⟨X, xn, xc, rfl, (own_capN HOW.out).1, Rch.of_own HOW.out⟩, HB3.out⟩
    · rw [if_pos h1] at hT
      have HT := hide hT
      obtain ⟨C, hC⟩ : ∃ C, chk M = C := ⟨_, rfl⟩
      have K2 := hide hC
      rw [hC] at h1 HT
      clear hT hC
      have dz : (C != 0) = true := by simpa using h1
      clear h1
      go_enter Try.func11, Try.ntmps11
      go_wp2_with (first
        | (go_at_call_of 13 A
           refine (check_any A n c L w (by have := HS.out; omega) HA.out).mono ?_
           rintro r w1 ⟨rfl, hb1⟩
           have HB1 := hide hb1
           clear hb1
           rw [K1.out])
        | (go_at_call_of 13 B
           refine (check_any B m d M w1 (by have := HS.out; omega) (HB.out.below HB1.out)).mono ?_
           rintro r w2 ⟨rfl, hb2⟩
           have HB2 := hide (Below.then_ HB1.out hb2)
           clear hb2
           rw [K2.out]))
      go_ret2
      rw [← HT.out]
      exact ⟨_, rfl, SC.nil _, HB2.out⟩
  · rw [if_pos h0] at hT
    have HT := hide hT
    obtain ⟨C, hC⟩ : ∃ C, chk L = C := ⟨_, rfl⟩
    have K1 := hide hC
    rw [hC] at h0 HT
    clear hT hC
    have dz : (C != 0) = true := by simpa using h0
    clear h0
    go_enter Try.func11, Try.ntmps11
    go_wp2_with (
      go_at_call_of 13 A
      refine (check_any A n c L w (by have := HS.out; omega) HA.out).mono ?_
      rintro r w1 ⟨rfl, hb1⟩
      have HB1 := hide hb1
      clear hb1
      rw [K1.out])
    go_ret2
    rw [← HT.out]
    exact ⟨_, rfl, SC.nil _, HB1.out⟩
/-- Changes made of a view; or what is wrong. -/
def apl (L : List Pr) (D : List Ch) : List Pr × Int := if chk D ≠ 0 then ([], chk D) else if ris (L.map Pr.k) = false then ([], 12) else match gath apOk apOut [] (mrg Pr.k Ch.k L D) with
  | some o => (o, 0)
  | none => ([], 11)
set_option maxHeartbeats 2000000 in
theorem apl_any (A : Option Addr) (n c : Nat) (L : List Pr) (B : Option Addr) (m d : Nat) (M : List Ch) (w : World) (hs : n + m ≤ 500) (hA : Rp w A n L) (hnc : n ≤ c) (hB : Rch w B m M) (hmd : m ≤ d) :
    Calls Try.prog 12 #[.slice A n c, .slice B m d] w fun e w' => ∃ v, e = .returned (.tuple #[v, .int .i64 (apl L M).2]) ∧ SP w' v (apl L M).1 ∧ Below w.heap.size w w' := by
  have HA := hide hA
  have HB := hide hB
  have HS := hide hs
  have HC := hide hnc
  have HD := hide hmd
  obtain ⟨T, hT⟩ : ∃ T, apl L M = T := ⟨_, rfl⟩
  rw [hT]
  unfold apl at hT
  clear hA hB hs hnc hmd
  by_cases h0 : chk M = 0
  · rw [if_neg (by rw [h0]; simp)] at hT
    have K1 := hide h0
    clear h0
    obtain ⟨R, hR⟩ : ∃ R, ris (L.map Pr.k) = R := ⟨_, rfl⟩
    rw [hR] at hT
    have HR := hide hR
    clear hR
    cases R
    · rw [if_pos rfl] at hT
      have HT := hide hT
      clear hT
      go_enter Try.func12, Try.ntmps12
      go_wp2_with (first
        | (go_at_call 13
           refine (check_any B m d M w (by have := HS.out; omega) HB.out).mono ?_
           rintro r w1 ⟨rfl, hb1⟩
           have HB1 := hide hb1
           clear hb1
           rw [K1.out])
        | (go_at_call 27
           refine (nthP_rising A n c L w1 (by have := HS.out; omega) (HA.out.below HB1.out)).mono ?_
           rintro r w2 ⟨rfl, hb2⟩
           have HB2 := hide (Below.then_ HB1.out hb2)
           clear hb2
           rw [HR.out]))
      go_ret2
      rw [← HT.out]
      exact ⟨_, rfl, SP.nil _, HB2.out⟩
    · rw [if_neg (by simp)] at hT
      obtain ⟨G, hG⟩ : ∃ G, gath apOk apOut [] (mrg Pr.k Ch.k L M) = G := ⟨_, rfl⟩
      rw [hG] at hT
      have HG := hide hG
      have HT := hide hT
      clear hT hG
      cases G with
      | none =>
        go_enter Try.func12, Try.ntmps12
        go_wp2_with (first
          | (go_at_call 13
             refine (check_any B m d M w (by have := HS.out; omega) HB.out).mono ?_
             rintro r w1 ⟨rfl, hb1⟩
             have HB1 := hide hb1
             clear hb1
             rw [K1.out])
          | (go_at_call 27
             refine (nthP_rising A n c L w1 (by have := HS.out; omega) (HA.out.below HB1.out)).mono ?_
             rintro r w2 ⟨rfl, hb2⟩
             have HB2 := hide (Below.then_ HB1.out hb2)
             clear hb2
             rw [HR.out])
          | (go_at_call 35
             go_loud (
             refine (tog35 w _ w2.heap.size A n c L B m d M HB2.out.size (Below.al HB2.out _) HA.out HC.out HB.out HD.out HS.out (OutP.fresh w2)).mono ?_
             rintro r w3 ⟨rfl, hb3, hout⟩
             rw [HG.out]
             have HB3 := hide ((Below.al HB2.out (.cells #[.slice none 0 0] 22)).trans (hb3.mono HB2.out.size))
             clear hb3 hout)))
        go_ret2
        rw [← HT.out]
        exact ⟨_, rfl, SP.nil _, HB3.out⟩
      | some o =>
        go_enter Try.func12, Try.ntmps12
        go_wp2_with (first
          | (go_at_call 13
             refine (check_any B m d M w (by have := HS.out; omega) HB.out).mono ?_
             rintro r w1 ⟨rfl, hb1⟩
             have HB1 := hide hb1
             clear hb1
             rw [K1.out])
          | (go_at_call 27
             refine (nthP_rising A n c L w1 (by have := HS.out; omega) (HA.out.below HB1.out)).mono ?_
             rintro r w2 ⟨rfl, hb2⟩
             have HB2 := hide (Below.then_ HB1.out hb2)
             clear hb2
             rw [HR.out])
          | (go_at_call 35
             go_loud (
             refine (tog35 w _ w2.heap.size A n c L B m d M HB2.out.size (Below.al HB2.out _) HA.out HC.out HB.out HD.out HS.out (OutP.fresh w2)).mono ?_
             rintro r w3 ⟨rfl, hb3, hout⟩
             rw [HG.out]
             have HB3 := hide ((Below.al HB2.out (.cells #[.slice none 0 0] 22)).trans (hb3.mono HB2.out.size))
             obtain ⟨X, xn, xc, hv, hown⟩ := hout o HG.out
             obtain ⟨c0, f0⟩ := hv.one
             have HOW := hide hown
             clear hb3 hout hown)))
        go_ret2
        rw [← HT.out]
        exact ⟨_, rfl, ⟨X, xn, xc, rfl, (own_capN HOW.out).1, Rp.of_own HOW.out⟩, HB3.out⟩
  · rw [if_pos h0] at hT
    have HT := hide hT
    obtain ⟨C, hC⟩ : ∃ C, chk M = C := ⟨_, rfl⟩
    have K1 := hide hC
    rw [hC] at h0 HT
    clear hT hC
    have dz : (C != 0) = true := by simpa using h0
    clear h0
    go_enter Try.func12, Try.ntmps12
    go_wp2_with (
      go_at_call 13
      refine (check_any B m d M w (by have := HS.out; omega) HB.out).mono ?_
      rintro r w1 ⟨rfl, hb1⟩
      have HB1 := hide hb1
      clear hb1
      rw [K1.out])
    go_ret2
    rw [← HT.out]
    exact ⟨_, rfl, SP.nil _, HB1.out⟩
end Go.Proofs.Ytcmlegpfapomnaa

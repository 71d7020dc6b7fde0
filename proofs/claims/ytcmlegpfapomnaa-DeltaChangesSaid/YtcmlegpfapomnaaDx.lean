/- The walk of DeltaChanges. -/
import Derived.Test.YtcmlegpfapomnaaDw
import Derived.Test.YtcmlegpfapomnaaDo3
import Derived.Test.YtcmlegpfapomnaaDn2
namespace Go.Proofs.Ytcmlegpfapomnaa
open Go.RowKit Go.Instr
open Go.Op (bytesLess)
set_option maxRecDepth 20000 in
set_option maxHeartbeats 32000000 in
theorem changes_law (A : Option Addr) (n c : Nat) (L : List Ch) (B : Option Addr) (m d : Nat) (M : List Ch) (w : World) (hc : n ≤ c) (hd : m ≤ d) (hA : Rch w A n L) (hB : Rch w B m M) :
    Calls Try.prog 6 #[.slice A n c, .slice B m d] w fun e w' => e = .returned (.bool true) ∧ Below w.heap.size w w' := by
  have HW := hide (Below.refl w.heap.size w)
  have HA := hide hA
  have HLA := hide hA.len
  have HCA := hide hc
  have HB := hide hB
  have HLB := hide hB.len
  have HCB := hide hd
  clear hA hc hB hd
  by_cases gn : 40 < n
  case pos =>
    have Gn : (40 : Int) < (n : Int) := by omega
    go_enter Try.func6, Try.ntmps6
    go_wp2_with (first
    | (go_at_call 9
       go_loud (
       refine (awake_any _).mono ?_
       rintro r w_ ⟨rfl, hb⟩
       have HW := hide (Below.then_ HW.out hb)
       clear hb)))
    go_ret
    exact ⟨rfl, HW.out⟩
  have Gn : ¬ (40 : Int) < (n : Int) := by omega
  by_cases gm : 40 < m
  case pos =>
    have Gm : (40 : Int) < (m : Int) := by omega
    go_enter Try.func6, Try.ntmps6
    go_wp2_with (first
    | (go_at_call 9
       go_loud (
       refine (awake_any _).mono ?_
       rintro r w_ ⟨rfl, hb⟩
       have HW := hide (Below.then_ HW.out hb)
       clear hb)))
    go_ret
    exact ⟨rfl, HW.out⟩
  have Gm : ¬ (40 : Int) < (m : Int) := by omega
  obtain ⟨O, hO⟩ : ∃ O, (thn L M).1 = O := ⟨_, rfl⟩
  obtain ⟨E, hE⟩ : ∃ E, (thn L M).2 = E := ⟨_, rfl⟩
  have hE4 : E = 0 ∨ E = 4 ∨ E = 11 ∨ E = 12 := by rw [← hE]; exact thn_code L M
  have AP := hide (show thn L M = (O, E) from Prod.ext hO hE)
  have Ol : O.length ≤ 80 := by rw [← hO]; have := thn_len L M; have := HLA.out; have := HLB.out; omega
  have hw1 : IntKind.i64.wrap E = E := by rcases hE4 with h | h | h | h <;> rw [h] <;> rfl
  have hw2 : wrap64 E = E := by unfold wrap64; omega
  obtain ⟨F, hF⟩ : ∃ F, chk L = F := ⟨_, rfl⟩
  have HF := hide hF
  have hF4 : F = 0 ∨ F = 4 ∨ F = 11 ∨ F = 12 := by rw [← hF]; rcases chk_is L with h | h | h <;> simp [h]
  have hv1 : IntKind.i64.wrap F = F := by rcases hF4 with h | h | h | h <;> rw [h] <;> rfl
  have hv2 : wrap64 F = F := by unfold wrap64; omega
  obtain ⟨G, hG⟩ : ∃ G, decide (L = M) = G := ⟨_, rfl⟩
  have HG := hide hG
  obtain ⟨KL, hKL⟩ : ∃ KL, cls L M = KL := ⟨_, rfl⟩
  have HK := hide hKL
  obtain ⟨k, hk⟩ : ∃ k, KL.length = k := ⟨_, rfl⟩
  have kl : k ≤ 40 := by rw [← hk, ← hKL]; have := cls_le L M; have := HLA.out; omega
  have HKL := hide hk
  clear hE4 hO hE hF hF4 hG hKL hk
  go_enter Try.func6, Try.ntmps6
  go_wp2_with (first
    | (go_at_call_of 17 A
       go_loud (
       refine (own_any A n c L _ (by omega) HA.out).mono ?_
       rintro r w_ ⟨v, rfl, ⟨XX, nX, cX, rfl, hc, hr⟩, hb⟩
       have HA := hide (HA.out.below hb)
       have HB := hide (HB.out.below hb)
       have HW := hide (Below.then_ HW.out hb)
       clear hb
       have lX : nX ≤ 40 := by have := hr.len; have := HLA.out; omega
       have SX := hide hr
       have CX := hide hc
       clear hr hc))
    | (go_at_call_of 17 B
       go_loud (
       refine (own_any B m d M _ (by omega) HB.out).mono ?_
       rintro r w_ ⟨v, rfl, ⟨XY, nY, cY, rfl, hc, hr⟩, hb⟩
       have HA := hide (HA.out.below hb)
       have HB := hide (HB.out.below hb)
       have SX := hide (SX.out.below hb)
       have HW := hide (Below.then_ HW.out hb)
       clear hb
       have lY : nY ≤ 40 := by have := hr.len; have := HLB.out; omega
       have SY := hide hr
       have CY := hide hc
       clear hr hc))
    | (go_at_call 11
       go_loud (
       refine (thn_any XX nX cX L XY nY cY M _ (by omega) SX.out CX.out SY.out CY.out).mono ?_
       rintro r w_ ⟨v, rfl, ⟨XP, nP, cP, rfl, hc, hr⟩, hb⟩
       have HA := hide (HA.out.below hb)
       have HB := hide (HB.out.below hb)
       have SX := hide (SX.out.below hb)
       have SY := hide (SY.out.below hb)
       have HW := hide (Below.then_ HW.out hb)
       clear hb
       rw [AP.out] at hr ⊢
       dsimp only at hr
       have lP : nP ≤ 80 := by have := hr.len; omega
       have SP := hide hr
       have CP := hide hc
       clear hr hc))
    | (go_at_call 21
       go_loud (
       refine (rthn_any A n c L B m d M _ (by omega) HA.out HB.out).mono ?_
       rintro r w_ ⟨v, rfl, ⟨XQ, nQ, cQ, rfl, hc, hr⟩, hb⟩
       have HA := hide (HA.out.below hb)
       have HB := hide (HB.out.below hb)
       have SX := hide (SX.out.below hb)
       have SY := hide (SY.out.below hb)
       have SP := hide (SP.out.below hb)
       have HW := hide (Below.then_ HW.out hb)
       clear hb
       rw [← thn_rthn, AP.out] at hr ⊢
       dsimp only at hr
       have lQ : nQ ≤ 80 := by have := hr.len; omega
       have SQ := hide hr
       have CQ := hide hc
       clear hr hc))
    | (go_at_call 16
       go_loud (
       refine (clash_any XX nX cX L XY nY cY M _ (by omega) (by omega) SX.out SY.out).mono ?_
       rintro r w_ ⟨v, rfl, ⟨XK, nK, cK, rfl, hc, hr⟩, hb⟩
       have HA := hide (HA.out.below hb)
       have HB := hide (HB.out.below hb)
       have SX := hide (SX.out.below hb)
       have SY := hide (SY.out.below hb)
       have SP := hide (SP.out.below hb)
       have SQ := hide (SQ.out.below hb)
       have HW := hide (Below.then_ HW.out hb)
       clear hb
       rw [HK.out] at hr
       have lK : k = nK := by rw [← hr.len]; exact HKL.out.symm
       subst lK
       have SK := hide hr
       have CK := hide hc
       clear hr hc))
    | (go_at_call 22
       go_loud (
       refine (rclash_any A n c L B m d M _ (by omega) (by omega) HA.out HB.out).mono ?_
       rintro r w_ ⟨v, rfl, ⟨XJ, nJ, cJ, rfl, hc, hr⟩, hb⟩
       have HA := hide (HA.out.below hb)
       have HB := hide (HB.out.below hb)
       have SX := hide (SX.out.below hb)
       have SY := hide (SY.out.below hb)
       have SP := hide (SP.out.below hb)
       have SQ := hide (SQ.out.below hb)
       have SK := hide (SK.out.below hb)
       have HW := hide (Below.then_ HW.out hb)
       clear hb
       rw [HK.out] at hr
       have lJ : k = nJ := by rw [← hr.len]; exact HKL.out.symm
       subst lJ
       have SJ := hide hr
       have CJ := hide hc
       clear hr hc)))
  go_loopw [13] (fun i wr => ∃ j : Nat, j ≤ k ∧ i = .int .i64 j ∧ Below w_.heap.size w_ wr) (fun i _ => k - (intOf i).toNat)
  case atStart => exact ⟨0, Nat.zero_le _, rfl, Below.refl _ _⟩
  case round =>
    obtain ⟨j, hj, rfl, hb⟩ := hrel
    have HBR := hide hb
    by_cases hlt : j < k
    · obtain ⟨b, o, rfl, hl1, c0⟩ := (SK.out.below hb).at_ hlt
      obtain ⟨b', o', rfl, hl2, d0⟩ := (SJ.out.below hb).at_ hlt
      obtain ⟨x, hx⟩ : ∃ x, nthS KL j = x := ⟨_, rfl⟩
      rw [hx] at c0 d0
      have ne := fun w => neq_str x x w
      rw [decide_eq_true rfl] at ne
      have kn : (j : Int) < (k : Int) := by omega
      have k0 : (0 : Int) ≤ (j : Int) := by omega
      clear hb hx hl1 hl2
      go_wp2_with fail
      go_quiet (fail)
      all_goals (
        go_wp2_with fail
        go_roundw
        case rel => exact ⟨j + 1, by omega, by go_num, Below.drewN' HBR.out _⟩
        case measure => simp [intOf]; omega)
    · obtain rfl : j = k := by omega
      have HA := hide (HA.out.below hb)
      have HB := hide (HB.out.below hb)
      have SX := hide (SX.out.below hb)
      have SY := hide (SY.out.below hb)
      have SP := hide (SP.out.below hb)
      have SQ := hide (SQ.out.below hb)
      have HW := hide (Below.then_ HW.out hb)
      clear hb
      go_wp2_with (first
        | (go_at_call_of 19 XP
           go_loud (
           refine (lsame_any XP nP cP O XQ nQ cQ O _ (by omega) SP.out SQ.out).mono ?_
           rintro r w_ ⟨rfl, hb⟩
           have HA := hide (HA.out.below hb)
           have HB := hide (HB.out.below hb)
           have SX := hide (SX.out.below hb)
           have SY := hide (SY.out.below hb)
           have HW := hide (Below.then_ HW.out hb)
           clear hb
           rw [decide_eq_true rfl]))
        | (go_at_call 13
           go_loud (
           refine (check_any XX nX cX L _ (by omega) SX.out).mono ?_
           rintro r w_ ⟨rfl, hb⟩
           have HA := hide (HA.out.below hb)
           have HB := hide (HB.out.below hb)
           have SX := hide (SX.out.below hb)
           have SY := hide (SY.out.below hb)
           have HW := hide (Below.then_ HW.out hb)
           clear hb
           rw [HF.out]))
        | (go_at_call 23
           go_loud (
           refine (rcheck_any A n c L _ (by omega) HA.out).mono ?_
           rintro r w_ ⟨rfl, hb⟩
           have HA := hide (HA.out.below hb)
           have HB := hide (HB.out.below hb)
           have SX := hide (SX.out.below hb)
           have SY := hide (SY.out.below hb)
           have HW := hide (Below.then_ HW.out hb)
           clear hb
           rw [HF.out]))
        | (go_at_call 24
           go_loud (
           refine (turn_any XX nX cX L _ (by omega) SX.out).mono ?_
           rintro r w_ ⟨v, rfl, ⟨XT, nT, cT, rfl, hc, hr⟩, hb⟩
           have HA := hide (HA.out.below hb)
           have HB := hide (HB.out.below hb)
           have SX := hide (SX.out.below hb)
           have SY := hide (SY.out.below hb)
           have HW := hide (Below.then_ HW.out hb)
           clear hb
           have lT : nT ≤ 80 := by have := hr.len; have := HLA.out; simp at *; omega
           have ST := hide hr
           have CT := hide hc
           clear hr hc))
        | (go_at_call 25
           go_loud (
           refine (rturn_any A n c L _ (by omega) HA.out).mono ?_
           rintro r w_ ⟨v, rfl, ⟨XU, nU, cU, rfl, hc, hr⟩, hb⟩
           have HA := hide (HA.out.below hb)
           have HB := hide (HB.out.below hb)
           have SX := hide (SX.out.below hb)
           have SY := hide (SY.out.below hb)
           have ST := hide (ST.out.below hb)
           have HW := hide (Below.then_ HW.out hb)
           clear hb
           have SU := hide hr
           have CU := hide hc
           clear hr hc))
        | (go_at_call_of 19 XT
           go_loud (
           refine (lsame_any XT nT cT (L.map turn1) XU nU cU (L.map turn1) _ (by omega) ST.out SU.out).mono ?_
           rintro r w_ ⟨rfl, hb⟩
           have HA := hide (HA.out.below hb)
           have HB := hide (HB.out.below hb)
           have SX := hide (SX.out.below hb)
           have SY := hide (SY.out.below hb)
           have HW := hide (Below.then_ HW.out hb)
           clear hb
           rw [decide_eq_true rfl]))
        | (go_at_call 14
           go_loud (
           refine (same_any XX nX cX L XY nY cY M _ (by omega) SX.out SY.out).mono ?_
           rintro r w_ ⟨rfl, hb⟩
           have HA := hide (HA.out.below hb)
           have HB := hide (HB.out.below hb)
           have HW := hide (Below.then_ HW.out hb)
           clear hb
           rw [HG.out]))
        | (go_at_call 26
           go_loud (
           refine (rsame_any A n c L B m d M _ (by omega) HA.out HB.out).mono ?_
           rintro r w_ ⟨rfl, hb⟩
           have HW := hide (Below.then_ HW.out hb)
           clear hb
           rw [HG.out]))
        | (go_at_call 9
           go_loud (
           refine (awake_any _).mono ?_
           rintro r w_ ⟨rfl, hb⟩
           have HW := hide (Below.then_ HW.out hb)
           clear hb)))
      go_ret
      exact ⟨rfl, HW.out⟩
end Go.Proofs.Ytcmlegpfapomnaa

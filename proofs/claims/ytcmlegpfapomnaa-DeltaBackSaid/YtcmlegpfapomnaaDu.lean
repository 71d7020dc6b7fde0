/- The walk of DeltaBack. -/
import Derived.Test.YtcmlegpfapomnaaDq
namespace Go.Proofs.Ytcmlegpfapomnaa
open Go.RowKit Go.Instr
set_option maxRecDepth 20000 in
set_option maxHeartbeats 32000000 in
theorem back_law (A : Option Addr) (n c : Nat) (L : List Pr) (B : Option Addr) (m d : Nat) (M : List Pr) (w : World) (hc : n ≤ c) (hd : m ≤ d) (hA : Rp w A n L) (hB : Rp w B m M) :
    Calls Try.prog 7 #[.slice A n c, .slice B m d] w fun e w' => e = .returned (.bool true) ∧ Below w.heap.size w w' := by
  have HW := hide (Below.refl w.heap.size w)
  have HA := hide hA
  have HLA := hide hA.len
  have HCA := hide hc
  have HB := hide hB
  have HLB := hide hB.len
  have HCB := hide hd
  obtain ⟨RA, hRA⟩ : ∃ R, ris (L.map Pr.k) = R := ⟨_, rfl⟩
  have HRA := hide hRA
  obtain ⟨RB, hRB⟩ : ∃ R, ris (M.map Pr.k) = R := ⟨_, rfl⟩
  have HRB := hide hRB
  clear hA hc hRA hB hd hRB
  by_cases gn : 40 < n
  case pos =>
    have Gn : (40 : Int) < (n : Int) := by omega
    go_enter Try.func7, Try.ntmps7
    go_wp2_with (first
    | (go_at_call 9
       go_loud (
       refine (awake_any _).mono ?_
       rintro r w_ ⟨rfl, hb⟩
       have HW := hide (Below.then_ HW.out hb)
       clear hb)))
    go_ret
    exact ⟨rfl, HW.out⟩
  have Gn : ¬ (40 : Int) < (n : Int) := by omega
  by_cases gm : 40 < m
  case pos =>
    have Gm : (40 : Int) < (m : Int) := by omega
    go_enter Try.func7, Try.ntmps7
    go_wp2_with (first
    | (go_at_call 9
       go_loud (
       refine (awake_any _).mono ?_
       rintro r w_ ⟨rfl, hb⟩
       have HW := hide (Below.then_ HW.out hb)
       clear hb)))
    go_ret
    exact ⟨rfl, HW.out⟩
  have Gm : ¬ (40 : Int) < (m : Int) := by omega
  cases RA
  case false =>
    go_enter Try.func7, Try.ntmps7
    go_wp2_with (first
    | (go_at_call_of 8 A
       go_loud (
       refine (view_any A n c L _ (by omega) HA.out).mono ?_
       rintro r w_ ⟨rfl, hb⟩
       have HA := hide (HA.out.below hb)
       have HB := hide (HB.out.below hb)
       have HW := hide (Below.then_ HW.out hb)
       clear hb
       rw [HRA.out]))
    | (go_at_call 9
       go_loud (
       refine (awake_any _).mono ?_
       rintro r w_ ⟨rfl, hb⟩
       have HW := hide (Below.then_ HW.out hb)
       clear hb)))
    go_ret
    exact ⟨rfl, HW.out⟩
  cases RB
  case false =>
    go_enter Try.func7, Try.ntmps7
    go_wp2_with (first
    | (go_at_call_of 8 A
       go_loud (
       refine (view_any A n c L _ (by omega) HA.out).mono ?_
       rintro r w_ ⟨rfl, hb⟩
       have HA := hide (HA.out.below hb)
       have HB := hide (HB.out.below hb)
       have HW := hide (Below.then_ HW.out hb)
       clear hb
       rw [HRA.out]))
    | (go_at_call_of 8 B
       go_loud (
       refine (view_any B m d M _ (by omega) HB.out).mono ?_
       rintro r w_ ⟨rfl, hb⟩
       have HA := hide (HA.out.below hb)
       have HB := hide (HB.out.below hb)
       have HW := hide (Below.then_ HW.out hb)
       clear hb
       rw [HRB.out]))
    | (go_at_call 9
       go_loud (
       refine (awake_any _).mono ?_
       rintro r w_ ⟨rfl, hb⟩
       have HW := hide (Below.then_ HW.out hb)
       clear hb)))
    go_ret
    exact ⟨rfl, HW.out⟩
  have VA := vw_ris HRA.out
  have VB := vw_ris HRB.out
  go_enter Try.func7, Try.ntmps7
  go_wp2_with (first
    | (go_at_call_of 8 A
       go_loud (
       refine (view_any A n c L _ (by omega) HA.out).mono ?_
       rintro r w_ ⟨rfl, hb⟩
       have HA := hide (HA.out.below hb)
       have HB := hide (HB.out.below hb)
       have HW := hide (Below.then_ HW.out hb)
       clear hb
       rw [HRA.out]))
    | (go_at_call_of 8 B
       go_loud (
       refine (view_any B m d M _ (by omega) HB.out).mono ?_
       rintro r w_ ⟨rfl, hb⟩
       have HA := hide (HA.out.below hb)
       have HB := hide (HB.out.below hb)
       have HW := hide (Below.then_ HW.out hb)
       clear hb
       rw [HRB.out]))
    | (go_at_call 10
       with_reducible show Calls _ _ #[.slice A n c, .slice B m d] _ _
       go_loud (
       refine (btw_any A n c L B m d M _ (by omega) HA.out HCA.out HB.out HCB.out).mono ?_
       rintro r w_ ⟨v, rfl, ⟨XD, nD, cD, rfl, hc, hr⟩, hb⟩
       have HA := hide (HA.out.below hb)
       have HB := hide (HB.out.below hb)
       have HW := hide (Below.then_ HW.out hb)
       clear hb
       have lD : nD ≤ 80 := by have := hr.len; have := btw_len L M; have := HLA.out; have := HLB.out; omega
       have SD := hide hr
       have CD := hide hc
       clear hr hc))
    | (go_at_call_of 12 XD
       go_loud (
       refine (apl_any A n c L XD nD cD (btw L M) _ (by omega) HA.out HCA.out SD.out CD.out).mono ?_
       rintro r w_ ⟨v, rfl, ⟨XP, nP, cP, rfl, hc, hr⟩, hb⟩
       have HA := hide (HA.out.below hb)
       have HB := hide (HB.out.below hb)
       have SD := hide (SD.out.below hb)
       have HW := hide (Below.then_ HW.out hb)
       clear hb
       rw [apl_btw VA VB] at hr ⊢
       dsimp only at hr
       have lP : nP ≤ 80 := by have := hr.len; have := HLA.out; have := HLB.out; omega
       have SP := hide hr
       have CP := hide hc
       clear hr hc))
    | (go_at_call 24
       refine (turn_any XD nD cD (btw L M) _ (by omega) SD.out).mono ?_
       rintro r w_ ⟨v, rfl, ⟨XT, nT, cT, rfl, hc, hr⟩, hb⟩
       have HA := hide (HA.out.below hb)
       have HB := hide (HB.out.below hb)
       have SD := hide (SD.out.below hb)
       have SP := hide (SP.out.below hb)
       have HW := hide (Below.then_ HW.out hb)
       clear hb
       rw [turn_btw VA VB] at hr
       have lT : nT ≤ 80 := by have := hr.len; have := btw_len M L; have := HLA.out; have := HLB.out; omega
       have ST := hide hr
       have CT := hide hc
       clear hr hc)
    | (go_at_call 24
       refine (turn_any XD nD cD (btw L M) _ (by omega) SD.out).mono ?_
       rintro r w_ ⟨v, rfl, ⟨XT, nT, cT, rfl, hc, hr⟩, hb⟩
       have HA := hide (HA.out.below hb)
       have HB := hide (HB.out.below hb)
       have HW := hide (Below.then_ HW.out hb)
       clear hb
       rw [turn_btw VA VB] at hr
       have lT : nT ≤ 80 := by have := hr.len; have := btw_len M L; have := HLA.out; have := HLB.out; omega
       have ST := hide hr
       have CT := hide hc
       clear hr hc)
    | (go_at_call_of 12 XT
       go_loud (
       refine (apl_any B m d M XT nT cT (btw M L) _ (by omega) HB.out HCB.out ST.out CT.out).mono ?_
       rintro r w_ ⟨v, rfl, ⟨XQ, nQ, cQ, rfl, hc, hr⟩, hb⟩
       have HA := hide (HA.out.below hb)
       have HB := hide (HB.out.below hb)
       have SD := hide (SD.out.below hb)
       have SP := hide (SP.out.below hb)
       have HW := hide (Below.then_ HW.out hb)
       clear hb
       rw [apl_btw VB VA] at hr ⊢
       dsimp only at hr
       have lQ : nQ ≤ 80 := by have := hr.len; have := HLA.out; have := HLB.out; omega
       have SQ := hide hr
       have CQ := hide hc
       clear hr hc))
    | (go_at_call 10
       with_reducible show Calls _ _ #[.slice A n c, .slice A n c] _ _
       refine (btw_any A n c L A n c L _ (by omega) HA.out HCA.out HA.out HCA.out).mono ?_
       rintro r w_ ⟨v, rfl, ⟨XU, nU, cU, rfl, hc, hr⟩, hb⟩
       have HA := hide (HA.out.below hb)
       have HB := hide (HB.out.below hb)
       have SD := hide (SD.out.below hb)
       have SP := hide (SP.out.below hb)
       have SQ := hide (SQ.out.below hb)
       have HW := hide (Below.then_ HW.out hb)
       clear hb
       have lU : nU ≤ 80 := by have := hr.len; have := btw_len L L; have := HLA.out; omega
       obtain rfl : nU = 0 := by have := hr.len; rw [btw_self VA] at this; exact this.symm
       have SU := hide hr
       have CU := hide hc
       clear hr hc)
    | (go_at_call 10
       with_reducible show Calls _ _ #[.slice A n c, .slice A n c] _ _
       refine (btw_any A n c L A n c L _ (by omega) HA.out HCA.out HA.out HCA.out).mono ?_
       rintro r w_ ⟨v, rfl, ⟨XU, nU, cU, rfl, hc, hr⟩, hb⟩
       have HA := hide (HA.out.below hb)
       have HB := hide (HB.out.below hb)
       have SD := hide (SD.out.below hb)
       have SZ := hide (SZ.out.below hb)
       have HW := hide (Below.then_ HW.out hb)
       clear hb
       have lU : nU ≤ 80 := by have := hr.len; have := btw_len L L; have := HLA.out; omega
       obtain rfl : nU = 0 := by have := hr.len; rw [btw_self VA] at this; exact this.symm
       have SU := hide hr
       have CU := hide hc
       clear hr hc)
    | (go_at_call_of 12 XU
       go_loud (
       refine (apl_any A n c L XU 0 cU (btw L L) _ (by omega) HA.out HCA.out SU.out CU.out).mono ?_
       rintro r w_ ⟨v, rfl, ⟨XZ, nZ, cZ, rfl, hc, hr⟩, hb⟩
       have HA := hide (HA.out.below hb)
       have HB := hide (HB.out.below hb)
       have SD := hide (SD.out.below hb)
       have SP := hide (SP.out.below hb)
       have SQ := hide (SQ.out.below hb)
       have HW := hide (Below.then_ HW.out hb)
       clear hb
       rw [apl_btw VA VA] at hr ⊢
       dsimp only at hr
       have lZ : nZ ≤ 80 := by have := hr.len; have := HLA.out; have := HLB.out; omega
       have SZ := hide hr
       have CZ := hide hc
       clear hr hc))
    | (go_at_call 13
       go_loud (
       refine (check_any XD nD cD (btw L M) _ (by omega) SD.out).mono ?_
       rintro r w_ ⟨rfl, hb⟩
       have HA := hide (HA.out.below hb)
       have HB := hide (HB.out.below hb)
       have SD := hide (SD.out.below hb)
       have SP := hide (SP.out.below hb)
       have SQ := hide (SQ.out.below hb)
       have SZ := hide (SZ.out.below hb)
       have HW := hide (Below.then_ HW.out hb)
       clear hb
       rw [(btw_delta VA VB).chk]))
    | (go_at_call_of 15 XP
       go_loud (
       refine (samep_any XP nP cP M B m d M _ (by omega) SP.out HB.out).mono ?_
       rintro r w_ ⟨rfl, hb⟩
       have HA := hide (HA.out.below hb)
       have HB := hide (HB.out.below hb)
       have SD := hide (SD.out.below hb)
       have SQ := hide (SQ.out.below hb)
       have SZ := hide (SZ.out.below hb)
       have HW := hide (Below.then_ HW.out hb)
       clear hb
       rw [decide_eq_true rfl]))
    | (go_at_call_of 15 XQ
       go_loud (
       refine (samep_any XQ nQ cQ L A n c L _ (by omega) SQ.out HA.out).mono ?_
       rintro r w_ ⟨rfl, hb⟩
       have HA := hide (HA.out.below hb)
       have HB := hide (HB.out.below hb)
       have SD := hide (SD.out.below hb)
       have SZ := hide (SZ.out.below hb)
       have HW := hide (Below.then_ HW.out hb)
       clear hb
       rw [decide_eq_true rfl]))
    | (go_at_call_of 15 XZ
       go_loud (
       refine (samep_any XZ nZ cZ L A n c L _ (by omega) SZ.out HA.out).mono ?_
       rintro r w_ ⟨rfl, hb⟩
       have HA := hide (HA.out.below hb)
       have HB := hide (HB.out.below hb)
       have SD := hide (SD.out.below hb)
       have HW := hide (Below.then_ HW.out hb)
       clear hb
       rw [decide_eq_true rfl]))
    | (go_at_call 10
       with_reducible show Calls _ _ #[.slice B m d, .slice A n c] _ _
       go_loud (
       refine (btw_any B m d M A n c L _ (by omega) HB.out HCB.out HA.out HCA.out).mono ?_
       rintro r w_ ⟨v, rfl, ⟨XI, nI, cI, rfl, hc, hr⟩, hb⟩
       have HA := hide (HA.out.below hb)
       have HB := hide (HB.out.below hb)
       have ST := hide (ST.out.below hb)
       have HW := hide (Below.then_ HW.out hb)
       clear hb
       have lI : nI ≤ 80 := by have := hr.len; have := btw_len M L; have := HLB.out; have := HLA.out; omega
       have SI := hide hr
       have CI := hide hc
       clear hr hc))
    | (go_at_call 14
       go_loud (
       refine (same_any XT nT cT (btw M L) XI nI cI (btw M L) _ (by omega) ST.out SI.out).mono ?_
       rintro r w_ ⟨rfl, hb⟩
       have HA := hide (HA.out.below hb)
       have HB := hide (HB.out.below hb)
       have HW := hide (Below.then_ HW.out hb)
       clear hb
       rw [decide_eq_true rfl]))
    | (go_at_call 9
       go_loud (
       refine (awake_any _).mono ?_
       rintro r w_ ⟨rfl, hb⟩
       have HW := hide (Below.then_ HW.out hb)
       clear hb)))
  go_ret
  exact ⟨rfl, HW.out⟩
end Go.Proofs.Ytcmlegpfapomnaa

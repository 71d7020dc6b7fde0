/- The walk of DeltaThen. -/
import Derived.Test.YtcmlegpfapomnaaDq
namespace Go.Proofs.Ytcmlegpfapomnaa
open Go.RowKit Go.Instr
set_option maxRecDepth 20000 in
set_option maxHeartbeats 32000000 in
theorem then_law (A : Option Addr) (n c : Nat) (L : List Pr) (B : Option Addr) (m d : Nat) (M : List Pr) (C : Option Addr) (p e : Nat) (N : List Pr) (w : World) (hc : n ≤ c) (hd : m ≤ d) (he : p ≤ e) (hA : Rp w A n L) (hB : Rp w B m M) (hC : Rp w C p N) :
    Calls Try.prog 3 #[.slice A n c, .slice B m d, .slice C p e] w fun e w' => e = .returned (.bool true) ∧ Below w.heap.size w w' := by
  have HW := hide (Below.refl w.heap.size w)
  have HA := hide hA
  have HLA := hide hA.len
  have HCA := hide hc
  have HB := hide hB
  have HLB := hide hB.len
  have HCB := hide hd
  have HC := hide hC
  have HLC := hide hC.len
  have HCC := hide he
  obtain ⟨RA, hRA⟩ : ∃ R, ris (L.map Pr.k) = R := ⟨_, rfl⟩
  have HRA := hide hRA
  obtain ⟨RB, hRB⟩ : ∃ R, ris (M.map Pr.k) = R := ⟨_, rfl⟩
  have HRB := hide hRB
  obtain ⟨RC, hRC⟩ : ∃ R, ris (N.map Pr.k) = R := ⟨_, rfl⟩
  have HRC := hide hRC
  clear hA hc hRA hB hd hRB hC he hRC
  by_cases gn : 40 < n
  case pos =>
    have Gn : (40 : Int) < (n : Int) := by omega
    go_enter Try.func3, Try.ntmps3
    go_wp2_with (first
    | (go_at_call 9
       go_loud (
       refine (awake_any _).mono ?_
       rintro r w_ ⟨rfl, hb⟩
       have HW := hide (Below.then_ HW.out hb)
       clear hb)))
    go_ret
    exact ⟨rfl, HW.out⟩
  have Gn : ¬ (40 : Int) < (n : Int) := by omega
  by_cases gm : 40 < m
  case pos =>
    have Gm : (40 : Int) < (m : Int) := by omega
    go_enter Try.func3, Try.ntmps3
    go_wp2_with (first
    | (go_at_call 9
       go_loud (
       refine (awake_any _).mono ?_
       rintro r w_ ⟨rfl, hb⟩
       have HW := hide (Below.then_ HW.out hb)
       clear hb)))
    go_ret
    exact ⟨rfl, HW.out⟩
  have Gm : ¬ (40 : Int) < (m : Int) := by omega
  by_cases gp : 40 < p
  case pos =>
    have Gp : (40 : Int) < (p : Int) := by omega
    go_enter Try.func3, Try.ntmps3
    go_wp2_with (first
    | (go_at_call 9
       go_loud (
       refine (awake_any _).mono ?_
       rintro r w_ ⟨rfl, hb⟩
       have HW := hide (Below.then_ HW.out hb)
       clear hb)))
    go_ret
    exact ⟨rfl, HW.out⟩
  have Gp : ¬ (40 : Int) < (p : Int) := by omega
  cases RA
  case false =>
    go_enter Try.func3, Try.ntmps3
    go_wp2_with (first
    | (go_at_call_of 8 A
       go_loud (
       refine (view_any A n c L _ (by omega) HA.out).mono ?_
       rintro r w_ ⟨rfl, hb⟩
       have HA := hide (HA.out.below hb)
       have HB := hide (HB.out.below hb)
       have HC := hide (HC.out.below hb)
       have HW := hide (Below.then_ HW.out hb)
       clear hb
       rw [HRA.out]))
    | (go_at_call 9
       go_loud (
       refine (awake_any _).mono ?_
       rintro r w_ ⟨rfl, hb⟩
       have HW := hide (Below.then_ HW.out hb)
       clear hb)))
    go_ret
    exact ⟨rfl, HW.out⟩
  cases RB
  case false =>
    go_enter Try.func3, Try.ntmps3
    go_wp2_with (first
    | (go_at_call_of 8 A
       go_loud (
       refine (view_any A n c L _ (by omega) HA.out).mono ?_
       rintro r w_ ⟨rfl, hb⟩
       have HA := hide (HA.out.below hb)
       have HB := hide (HB.out.below hb)
       have HC := hide (HC.out.below hb)
       have HW := hide (Below.then_ HW.out hb)
       clear hb
       rw [HRA.out]))
    | (go_at_call_of 8 B
       go_loud (
       refine (view_any B m d M _ (by omega) HB.out).mono ?_
       rintro r w_ ⟨rfl, hb⟩
       have HA := hide (HA.out.below hb)
       have HB := hide (HB.out.below hb)
       have HC := hide (HC.out.below hb)
       have HW := hide (Below.then_ HW.out hb)
       clear hb
       rw [HRB.out]))
    | (go_at_call 9
       go_loud (
       refine (awake_any _).mono ?_
       rintro r w_ ⟨rfl, hb⟩
       have HW := hide (Below.then_ HW.out hb)
       clear hb)))
    go_ret
    exact ⟨rfl, HW.out⟩
  cases RC
  case false =>
    go_enter Try.func3, Try.ntmps3
    go_wp2_with (first
    | (go_at_call_of 8 A
       go_loud (
       refine (view_any A n c L _ (by omega) HA.out).mono ?_
       rintro r w_ ⟨rfl, hb⟩
       have HA := hide (HA.out.below hb)
       have HB := hide (HB.out.below hb)
       have HC := hide (HC.out.below hb)
       have HW := hide (Below.then_ HW.out hb)
       clear hb
       rw [HRA.out]))
    | (go_at_call_of 8 B
       go_loud (
       refine (view_any B m d M _ (by omega) HB.out).mono ?_
       rintro r w_ ⟨rfl, hb⟩
       have HA := hide (HA.out.below hb)
       have HB := hide (HB.out.below hb)
       have HC := hide (HC.out.below hb)
       have HW := hide (Below.then_ HW.out hb)
       clear hb
       rw [HRB.out]))
    | (go_at_call_of 8 C
       go_loud (
       refine (view_any C p e N _ (by omega) HC.out).mono ?_
       rintro r w_ ⟨rfl, hb⟩
       have HA := hide (HA.out.below hb)
       have HB := hide (HB.out.below hb)
       have HC := hide (HC.out.below hb)
       have HW := hide (Below.then_ HW.out hb)
       clear hb
       rw [HRC.out]))
    | (go_at_call 9
       go_loud (
       refine (awake_any _).mono ?_
       rintro r w_ ⟨rfl, hb⟩
       have HW := hide (Below.then_ HW.out hb)
       clear hb)))
    go_ret
    exact ⟨rfl, HW.out⟩
  have VA := vw_ris HRA.out
  have VB := vw_ris HRB.out
  have VC := vw_ris HRC.out
  go_enter Try.func3, Try.ntmps3
  go_wp2_with (first
    | (go_at_call_of 8 A
       go_loud (
       refine (view_any A n c L _ (by omega) HA.out).mono ?_
       rintro r w_ ⟨rfl, hb⟩
       have HA := hide (HA.out.below hb)
       have HB := hide (HB.out.below hb)
       have HC := hide (HC.out.below hb)
       have HW := hide (Below.then_ HW.out hb)
       clear hb
       rw [HRA.out]))
    | (go_at_call_of 8 B
       go_loud (
       refine (view_any B m d M _ (by omega) HB.out).mono ?_
       rintro r w_ ⟨rfl, hb⟩
       have HA := hide (HA.out.below hb)
       have HB := hide (HB.out.below hb)
       have HC := hide (HC.out.below hb)
       have HW := hide (Below.then_ HW.out hb)
       clear hb
       rw [HRB.out]))
    | (go_at_call_of 8 C
       go_loud (
       refine (view_any C p e N _ (by omega) HC.out).mono ?_
       rintro r w_ ⟨rfl, hb⟩
       have HA := hide (HA.out.below hb)
       have HB := hide (HB.out.below hb)
       have HC := hide (HC.out.below hb)
       have HW := hide (Below.then_ HW.out hb)
       clear hb
       rw [HRC.out]))
    | (go_at_call 10
       with_reducible show Calls _ _ #[.slice A n c, .slice B m d] _ _
       go_loud (
       refine (btw_any A n c L B m d M _ (by omega) HA.out HCA.out HB.out HCB.out).mono ?_
       rintro r w_ ⟨v, rfl, ⟨XD, nD, cD, rfl, hc, hr⟩, hb⟩
       have HA := hide (HA.out.below hb)
       have HB := hide (HB.out.below hb)
       have HC := hide (HC.out.below hb)
       have HW := hide (Below.then_ HW.out hb)
       clear hb
       have lD : nD ≤ 80 := by have := hr.len; have := btw_len L M; have := HLA.out; have := HLB.out; omega
       have SD := hide hr
       have CD := hide hc
       clear hr hc))
    | (go_at_call 10
       with_reducible show Calls _ _ #[.slice B m d, .slice C p e] _ _
       go_loud (
       refine (btw_any B m d M C p e N _ (by omega) HB.out HCB.out HC.out HCC.out).mono ?_
       rintro r w_ ⟨v, rfl, ⟨XE, nE, cE, rfl, hc, hr⟩, hb⟩
       have HA := hide (HA.out.below hb)
       have HB := hide (HB.out.below hb)
       have HC := hide (HC.out.below hb)
       have SD := hide (SD.out.below hb)
       have HW := hide (Below.then_ HW.out hb)
       clear hb
       have lE : nE ≤ 80 := by have := hr.len; have := btw_len M N; have := HLB.out; have := HLC.out; omega
       have SE := hide hr
       have CE := hide hc
       clear hr hc))
    | (go_at_call 11
       go_loud (
       refine (thn_any XD nD cD (btw L M) XE nE cE (btw M N) _ (by omega) SD.out CD.out SE.out CE.out).mono ?_
       rintro r w_ ⟨v, rfl, ⟨XT, nT, cT, rfl, hc, hr⟩, hb⟩
       have HA := hide (HA.out.below hb)
       have HB := hide (HB.out.below hb)
       have HC := hide (HC.out.below hb)
       have HW := hide (Below.then_ HW.out hb)
       clear hb
       rw [thn_btw VA VB VC] at hr ⊢
       dsimp only at hr
       have lT : nT ≤ 80 := by have := hr.len; have := btw_len L N; have := HLA.out; have := HLC.out; omega
       have ST := hide hr
       have CT := hide hc
       clear hr hc))
    | (go_at_call 12
       go_loud (
       refine (apl_any A n c L XT nT cT (btw L N) _ (by omega) HA.out HCA.out ST.out CT.out).mono ?_
       rintro r w_ ⟨v, rfl, ⟨XX, nX, cX, rfl, hc, hr⟩, hb⟩
       have HA := hide (HA.out.below hb)
       have HB := hide (HB.out.below hb)
       have HC := hide (HC.out.below hb)
       have ST := hide (ST.out.below hb)
       have HW := hide (Below.then_ HW.out hb)
       clear hb
       rw [apl_btw VA VC] at hr ⊢
       dsimp only at hr
       have lX : nX ≤ 80 := by have := hr.len; have := HLC.out; omega
       have SX := hide hr
       clear hr hc))
    | (go_at_call 13
       go_loud (
       refine (check_any XT nT cT (btw L N) _ (by omega) ST.out).mono ?_
       rintro r w_ ⟨rfl, hb⟩
       have HA := hide (HA.out.below hb)
       have HB := hide (HB.out.below hb)
       have HC := hide (HC.out.below hb)
       have ST := hide (ST.out.below hb)
       have SX := hide (SX.out.below hb)
       have HW := hide (Below.then_ HW.out hb)
       clear hb
       rw [(btw_delta VA VC).chk]))
    | (go_at_call 10
       with_reducible show Calls _ _ #[.slice A n c, .slice C p e] _ _
       go_loud (
       refine (btw_any A n c L C p e N _ (by omega) HA.out HCA.out HC.out HCC.out).mono ?_
       rintro r w_ ⟨v, rfl, ⟨XU, nU, cU, rfl, hc, hr⟩, hb⟩
       have HA := hide (HA.out.below hb)
       have HB := hide (HB.out.below hb)
       have HC := hide (HC.out.below hb)
       have ST := hide (ST.out.below hb)
       have SX := hide (SX.out.below hb)
       have HW := hide (Below.then_ HW.out hb)
       clear hb
       have lU : nU ≤ 80 := by have := hr.len; have := btw_len L N; have := HLA.out; have := HLC.out; omega
       have SU := hide hr
       have CU := hide hc
       clear hr hc))
    | (go_at_call 14
       go_loud (
       refine (same_any XT nT cT (btw L N) XU nU cU (btw L N) _ (by omega) ST.out SU.out).mono ?_
       rintro r w_ ⟨rfl, hb⟩
       have HA := hide (HA.out.below hb)
       have HB := hide (HB.out.below hb)
       have HC := hide (HC.out.below hb)
       have SX := hide (SX.out.below hb)
       have HW := hide (Below.then_ HW.out hb)
       clear hb
       rw [decide_eq_true rfl]))
    | (go_at_call 15
       go_loud (
       refine (samep_any XX nX cX N C p e N _ (by omega) SX.out HC.out).mono ?_
       rintro r w_ ⟨rfl, hb⟩
       have HA := hide (HA.out.below hb)
       have HB := hide (HB.out.below hb)
       have HC := hide (HC.out.below hb)
       have HW := hide (Below.then_ HW.out hb)
       clear hb
       rw [decide_eq_true rfl]))
    | (go_at_call 9
       go_loud (
       refine (awake_any _).mono ?_
       rintro r w_ ⟨rfl, hb⟩
       have HW := hide (Below.then_ HW.out hb)
       clear hb)))
  go_ret
  exact ⟨rfl, HW.out⟩
end Go.Proofs.Ytcmlegpfapomnaa

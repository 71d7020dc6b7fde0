/- The walk of DeltaApart. -/
import Derived.Test.YtcmlegpfapomnaaDq
namespace Go.Proofs.Ytcmlegpfapomnaa
open Go.RowKit Go.Instr
set_option maxRecDepth 20000 in
set_option maxHeartbeats 32000000 in
theorem apart_law (A : Option Addr) (n c : Nat) (L : List Pr) (B : Option Addr) (m d : Nat) (M : List Pr) (C : Option Addr) (p e : Nat) (N : List Pr) (w : World) (hc : n ≤ c) (hd : m ≤ d) (he : p ≤ e) (hA : Rp w A n L) (hB : Rp w B m M) (hC : Rp w C p N) :
    Calls Try.prog 4 #[.slice A n c, .slice B m d, .slice C p e] w fun e w' => e = .returned (.bool true) ∧ Below w.heap.size w w' := by
  have HW := hide (Below.refl w.heap.size w)
  have HA := hide hA
  have HLA := hide hA.len
  have HCA := hide hc
  have HB := hide hB
  have HLB := hide hB.len
  have HCB := hide hd
  have HC := hide hC
  have HLC := hide hC.len
  have HCC := hide he
  obtain ⟨RA, hRA⟩ : ∃ R, ris (L.map Pr.k) = R := ⟨_, rfl⟩
  have HRA := hide hRA
  obtain ⟨RB, hRB⟩ : ∃ R, ris (M.map Pr.k) = R := ⟨_, rfl⟩
  have HRB := hide hRB
  obtain ⟨RC, hRC⟩ : ∃ R, ris (N.map Pr.k) = R := ⟨_, rfl⟩
  have HRC := hide hRC
  clear hA hc hRA hB hd hRB hC he hRC
  by_cases gn : 40 < n
  case pos =>
    have Gn : (40 : Int) < (n : Int) := by omega
    go_enter Try.func4, Try.ntmps4
    go_wp2_with (first
    | (go_at_call 9
       go_loud (
       refine (awake_any _).mono ?_
       rintro r w_ ⟨rfl, hb⟩
       have HW := hide (Below.then_ HW.out hb)
       clear hb)))
    go_ret
    exact ⟨rfl, HW.out⟩
  have Gn : ¬ (40 : Int) < (n : Int) := by omega
  by_cases gm : 40 < m
  case pos =>
    have Gm : (40 : Int) < (m : Int) := by omega
    go_enter Try.func4, Try.ntmps4
    go_wp2_with (first
    | (go_at_call 9
       go_loud (
       refine (awake_any _).mono ?_
       rintro r w_ ⟨rfl, hb⟩
       have HW := hide (Below.then_ HW.out hb)
       clear hb)))
    go_ret
    exact ⟨rfl, HW.out⟩
  have Gm : ¬ (40 : Int) < (m : Int) := by omega
  by_cases gp : 40 < p
  case pos =>
    have Gp : (40 : Int) < (p : Int) := by omega
    go_enter Try.func4, Try.ntmps4
    go_wp2_with (first
    | (go_at_call 9
       go_loud (
       refine (awake_any _).mono ?_
       rintro r w_ ⟨rfl, hb⟩
       have HW := hide (Below.then_ HW.out hb)
       clear hb)))
    go_ret
    exact ⟨rfl, HW.out⟩
  have Gp : ¬ (40 : Int) < (p : Int) := by omega
  cases RA
  case false =>
    go_enter Try.func4, Try.ntmps4
    go_wp2_with (first
    | (go_at_call_of 8 A
       go_loud (
       refine (view_any A n c L _ (by omega) HA.out).mono ?_
       rintro r w_ ⟨rfl, hb⟩
       have HA := hide (HA.out.below hb)
       have HB := hide (HB.out.below hb)
       have HC := hide (HC.out.below hb)
       have HW := hide (Below.then_ HW.out hb)
       clear hb
       rw [HRA.out]))
    | (go_at_call 9
       go_loud (
       refine (awake_any _).mono ?_
       rintro r w_ ⟨rfl, hb⟩
       have HW := hide (Below.then_ HW.out hb)
       clear hb)))
    go_ret
    exact ⟨rfl, HW.out⟩
  cases RB
  case false =>
    go_enter Try.func4, Try.ntmps4
    go_wp2_with (first
    | (go_at_call_of 8 A
       go_loud (
       refine (view_any A n c L _ (by omega) HA.out).mono ?_
       rintro r w_ ⟨rfl, hb⟩
       have HA := hide (HA.out.below hb)
       have HB := hide (HB.out.below hb)
       have HC := hide (HC.out.below hb)
       have HW := hide (Below.then_ HW.out hb)
       clear hb
       rw [HRA.out]))
    | (go_at_call_of 8 B
       go_loud (
       refine (view_any B m d M _ (by omega) HB.out).mono ?_
       rintro r w_ ⟨rfl, hb⟩
       have HA := hide (HA.out.below hb)
       have HB := hide (HB.out.below hb)
       have HC := hide (HC.out.below hb)
       have HW := hide (Below.then_ HW.out hb)
       clear hb
       rw [HRB.out]))
    | (go_at_call 9
       go_loud (
       refine (awake_any _).mono ?_
       rintro r w_ ⟨rfl, hb⟩
       have HW := hide (Below.then_ HW.out hb)
       clear hb)))
    go_ret
    exact ⟨rfl, HW.out⟩
  cases RC
  case false =>
    go_enter Try.func4, Try.ntmps4
    go_wp2_with (first
    | (go_at_call_of 8 A
       go_loud (
       refine (view_any A n c L _ (by omega) HA.out).mono ?_
       rintro r w_ ⟨rfl, hb⟩
       have HA := hide (HA.out.below hb)
       have HB := hide (HB.out.below hb)
       have HC := hide (HC.out.below hb)
       have HW := hide (Below.then_ HW.out hb)
       clear hb
       rw [HRA.out]))
    | (go_at_call_of 8 B
       go_loud (
       refine (view_any B m d M _ (by omega) HB.out).mono ?_
       rintro r w_ ⟨rfl, hb⟩
       have HA := hide (HA.out.below hb)
       have HB := hide (HB.out.below hb)
       have HC := hide (HC.out.below hb)
       have HW := hide (Below.then_ HW.out hb)
       clear hb
       rw [HRB.out]))
    | (go_at_call_of 8 C
       go_loud (
       refine (view_any C p e N _ (by omega) HC.out).mono ?_
       rintro r w_ ⟨rfl, hb⟩
       have HA := hide (HA.out.below hb)
       have HB := hide (HB.out.below hb)
       have HC := hide (HC.out.below hb)
       have HW := hide (Below.then_ HW.out hb)
       clear hb
       rw [HRC.out]))
    | (go_at_call 9
       go_loud (
       refine (awake_any _).mono ?_
       rintro r w_ ⟨rfl, hb⟩
       have HW := hide (Below.then_ HW.out hb)
       clear hb)))
    go_ret
    exact ⟨rfl, HW.out⟩
  have VA := vw_ris HRA.out
  have VB := vw_ris HRB.out
  have VC := vw_ris HRC.out
  by_cases hno : cls (btw L M) (btw L N) = []
  case neg =>
    obtain ⟨k, hk⟩ : ∃ k, (cls (btw L M) (btw L N)).length = k := ⟨_, rfl⟩
    have HK := hide hk
    have k0 : (0 : Int) < (k : Int) := by
      have := List.length_pos_iff.2 hno
      omega
    clear hk hno
    go_enter Try.func4, Try.ntmps4
    go_wp2_with (first
    | (go_at_call_of 8 A
       go_loud (
       refine (view_any A n c L _ (by omega) HA.out).mono ?_
       rintro r w_ ⟨rfl, hb⟩
       have HA := hide (HA.out.below hb)
       have HB := hide (HB.out.below hb)
       have HC := hide (HC.out.below hb)
       have HW := hide (Below.then_ HW.out hb)
       clear hb
       rw [HRA.out]))
    | (go_at_call_of 8 B
       go_loud (
       refine (view_any B m d M _ (by omega) HB.out).mono ?_
       rintro r w_ ⟨rfl, hb⟩
       have HA := hide (HA.out.below hb)
       have HB := hide (HB.out.below hb)
       have HC := hide (HC.out.below hb)
       have HW := hide (Below.then_ HW.out hb)
       clear hb
       rw [HRB.out]))
    | (go_at_call_of 8 C
       go_loud (
       refine (view_any C p e N _ (by omega) HC.out).mono ?_
       rintro r w_ ⟨rfl, hb⟩
       have HA := hide (HA.out.below hb)
       have HB := hide (HB.out.below hb)
       have HC := hide (HC.out.below hb)
       have HW := hide (Below.then_ HW.out hb)
       clear hb
       rw [HRC.out]))
    | (go_at_call 10
       with_reducible show Calls _ _ #[.slice A n c, .slice B m d] _ _
       go_loud (
       refine (btw_any A n c L B m d M _ (by omega) HA.out HCA.out HB.out HCB.out).mono ?_
       rintro r w_ ⟨v, rfl, ⟨XD, nD, cD, rfl, hc, hr⟩, hb⟩
       have HA := hide (HA.out.below hb)
       have HB := hide (HB.out.below hb)
       have HC := hide (HC.out.below hb)
       have HW := hide (Below.then_ HW.out hb)
       clear hb
       have lD : nD ≤ 80 := by have := hr.len; have := btw_len L M; have := HLA.out; have := HLB.out; omega
       have SD := hide hr
       have CD := hide hc
       clear hr hc))
    | (go_at_call 10
       with_reducible show Calls _ _ #[.slice A n c, .slice C p e] _ _
       go_loud (
       refine (btw_any A n c L C p e N _ (by omega) HA.out HCA.out HC.out HCC.out).mono ?_
       rintro r w_ ⟨v, rfl, ⟨XE, nE, cE, rfl, hc, hr⟩, hb⟩
       have HA := hide (HA.out.below hb)
       have HB := hide (HB.out.below hb)
       have HC := hide (HC.out.below hb)
       have SD := hide (SD.out.below hb)
       have HW := hide (Below.then_ HW.out hb)
       clear hb
       have lE : nE ≤ 80 := by have := hr.len; have := btw_len L N; have := HLA.out; have := HLC.out; omega
       have SE := hide hr
       have CE := hide hc
       clear hr hc))
    | (go_at_call 16
       with_reducible show Calls _ _ #[.slice XD nD cD, .slice XE nE cE] _ _
       go_loud (
       refine (clash_any XD nD cD (btw L M) XE nE cE (btw L N) _ (by omega) (by omega) SD.out SE.out).mono ?_
       rintro r w_ ⟨v, rfl, ⟨XK, nK, cK, rfl, hc, hr⟩, hb⟩
       have HA := hide (HA.out.below hb)
       have HB := hide (HB.out.below hb)
       have HC := hide (HC.out.below hb)
       have SD := hide (SD.out.below hb)
       have SE := hide (SE.out.below hb)
       have HW := hide (Below.then_ HW.out hb)
       clear hb
       have lK : k = nK := by rw [← hr.len]; exact HK.out.symm
       subst lK
       clear hr hc))
    | (go_at_call 16
       with_reducible show Calls _ _ #[.slice XE nE cE, .slice XD nD cD] _ _
       go_loud (
       refine (clash_any XE nE cE (btw L N) XD nD cD (btw L M) _ (by omega) (by omega) SE.out SD.out).mono ?_
       rintro r w_ ⟨v, rfl, ⟨XJ, nJ, cJ, rfl, hc, hr⟩, hb⟩
       have HA := hide (HA.out.below hb)
       have HB := hide (HB.out.below hb)
       have HC := hide (HC.out.below hb)
       have SD := hide (SD.out.below hb)
       have SE := hide (SE.out.below hb)
       have HW := hide (Below.then_ HW.out hb)
       clear hb
       have lJ : k = nJ := by rw [← hr.len, ← cls_len (btw_delta VA VB) (btw_delta VA VC)]; exact HK.out.symm
       subst lJ
       clear hr hc))
    | (go_at_call 9
       go_loud (
       refine (awake_any _).mono ?_
       rintro r w_ ⟨rfl, hb⟩
       have HW := hide (Below.then_ HW.out hb)
       clear hb)))
    go_ret
    exact ⟨rfl, HW.out⟩
  obtain ⟨o, t, e1, e2, e3, e4⟩ := apart VA VB VC hno
  have ol : o.length ≤ 120 := by have := apl_len M (btw L N); rw [e1] at this; have := btw_len L N; have := HLA.out; have := HLB.out; have := HLC.out; dsimp only at *; omega
  have tl : t.length ≤ 160 := by have := thn_len (btw L M) (btw L N); rw [e3] at this; have := btw_len L N; have := btw_len L M; have := HLA.out; have := HLB.out; have := HLC.out; dsimp only at *; omega
  have E1 := hide e1
  have E2 := hide e2
  have E3 := hide e3
  have E4 := hide e4
  have HN := hide hno
  clear e1 e2 e3 e4 hno
  go_enter Try.func4, Try.ntmps4
  go_wp2_with (first
    | (go_at_call_of 8 A
       go_loud (
       refine (view_any A n c L _ (by omega) HA.out).mono ?_
       rintro r w_ ⟨rfl, hb⟩
       have HA := hide (HA.out.below hb)
       have HB := hide (HB.out.below hb)
       have HC := hide (HC.out.below hb)
       have HW := hide (Below.then_ HW.out hb)
       clear hb
       rw [HRA.out]))
    | (go_at_call_of 8 B
       go_loud (
       refine (view_any B m d M _ (by omega) HB.out).mono ?_
       rintro r w_ ⟨rfl, hb⟩
       have HA := hide (HA.out.below hb)
       have HB := hide (HB.out.below hb)
       have HC := hide (HC.out.below hb)
       have HW := hide (Below.then_ HW.out hb)
       clear hb
       rw [HRB.out]))
    | (go_at_call_of 8 C
       go_loud (
       refine (view_any C p e N _ (by omega) HC.out).mono ?_
       rintro r w_ ⟨rfl, hb⟩
       have HA := hide (HA.out.below hb)
       have HB := hide (HB.out.below hb)
       have HC := hide (HC.out.below hb)
       have HW := hide (Below.then_ HW.out hb)
       clear hb
       rw [HRC.out]))
    | (go_at_call 10
       with_reducible show Calls _ _ #[.slice A n c, .slice B m d] _ _
       go_loud (
       refine (btw_any A n c L B m d M _ (by omega) HA.out HCA.out HB.out HCB.out).mono ?_
       rintro r w_ ⟨v, rfl, ⟨XD, nD, cD, rfl, hc, hr⟩, hb⟩
       have HA := hide (HA.out.below hb)
       have HB := hide (HB.out.below hb)
       have HC := hide (HC.out.below hb)
       have HW := hide (Below.then_ HW.out hb)
       clear hb
       have lD : nD ≤ 80 := by have := hr.len; have := btw_len L M; have := HLA.out; have := HLB.out; omega
       have SD := hide hr
       have CD := hide hc
       clear hr hc))
    | (go_at_call 10
       with_reducible show Calls _ _ #[.slice A n c, .slice C p e] _ _
       go_loud (
       refine (btw_any A n c L C p e N _ (by omega) HA.out HCA.out HC.out HCC.out).mono ?_
       rintro r w_ ⟨v, rfl, ⟨XE, nE, cE, rfl, hc, hr⟩, hb⟩
       have HA := hide (HA.out.below hb)
       have HB := hide (HB.out.below hb)
       have HC := hide (HC.out.below hb)
       have SD := hide (SD.out.below hb)
       have HW := hide (Below.then_ HW.out hb)
       clear hb
       have lE : nE ≤ 80 := by have := hr.len; have := btw_len L N; have := HLA.out; have := HLC.out; omega
       have SE := hide hr
       have CE := hide hc
       clear hr hc))
    | (go_at_call 16
       with_reducible show Calls _ _ #[.slice XD nD cD, .slice XE nE cE] _ _
       go_loud (
       refine (clash_any XD nD cD (btw L M) XE nE cE (btw L N) _ (by omega) (by omega) SD.out SE.out).mono ?_
       rintro r w_ ⟨v, rfl, ⟨XK, nK, cK, rfl, hc, hr⟩, hb⟩
       have HA := hide (HA.out.below hb)
       have HB := hide (HB.out.below hb)
       have HC := hide (HC.out.below hb)
       have SD := hide (SD.out.below hb)
       have SE := hide (SE.out.below hb)
       have HW := hide (Below.then_ HW.out hb)
       clear hb
       have lK : nK = 0 := by rw [← hr.len, HN.out]; rfl
       subst lK
       clear hr hc))
    | (go_at_call_of 12 B
       go_loud (
       refine (apl_any B m d M XE nE cE (btw L N) _ (by omega) HB.out HCB.out SE.out CE.out).mono ?_
       rintro r w_ ⟨v, rfl, ⟨XP, nP, cP, rfl, hc, hr⟩, hb⟩
       have HA := hide (HA.out.below hb)
       have HB := hide (HB.out.below hb)
       have HC := hide (HC.out.below hb)
       have SD := hide (SD.out.below hb)
       have SE := hide (SE.out.below hb)
       have HW := hide (Below.then_ HW.out hb)
       clear hb
       rw [E1.out] at hr ⊢
       dsimp only at hr
       have lP := hr.len
       have SP := hide hr
       have CP := hide hc
       clear hr hc))
    | (go_at_call_of 12 C
       go_loud (
       refine (apl_any C p e N XD nD cD (btw L M) _ (by omega) HC.out HCC.out SD.out CD.out).mono ?_
       rintro r w_ ⟨v, rfl, ⟨XQ, nQ, cQ, rfl, hc, hr⟩, hb⟩
       have HA := hide (HA.out.below hb)
       have HB := hide (HB.out.below hb)
       have HC := hide (HC.out.below hb)
       have SD := hide (SD.out.below hb)
       have SE := hide (SE.out.below hb)
       have SP := hide (SP.out.below hb)
       have HW := hide (Below.then_ HW.out hb)
       clear hb
       rw [E2.out] at hr ⊢
       dsimp only at hr
       have lQ := hr.len
       have SQ := hide hr
       have CQ := hide hc
       clear hr hc))
    | (go_at_call 11
       go_loud (
       refine (thn_any XD nD cD (btw L M) XE nE cE (btw L N) _ (by omega) SD.out CD.out SE.out CE.out).mono ?_
       rintro r w_ ⟨v, rfl, ⟨XT, nT, cT, rfl, hc, hr⟩, hb⟩
       have HA := hide (HA.out.below hb)
       have HB := hide (HB.out.below hb)
       have HC := hide (HC.out.below hb)
       have SP := hide (SP.out.below hb)
       have SQ := hide (SQ.out.below hb)
       have HW := hide (Below.then_ HW.out hb)
       clear hb
       rw [E3.out] at hr ⊢
       dsimp only at hr
       have lT := hr.len
       have ST := hide hr
       have CT := hide hc
       clear hr hc))
    | (go_at_call_of 12 XT
       go_loud (
       refine (apl_any A n c L XT nT cT t _ (by omega) HA.out HCA.out ST.out CT.out).mono ?_
       rintro r w_ ⟨v, rfl, ⟨XZ, nZ, cZ, rfl, hc, hr⟩, hb⟩
       have HA := hide (HA.out.below hb)
       have HB := hide (HB.out.below hb)
       have HC := hide (HC.out.below hb)
       have SP := hide (SP.out.below hb)
       have SQ := hide (SQ.out.below hb)
       have HW := hide (Below.then_ HW.out hb)
       clear hb
       rw [E4.out] at hr ⊢
       dsimp only at hr
       have lZ := hr.len
       have SZ := hide hr
       have CZ := hide hc
       clear hr hc))
    | (go_at_call_of 15 XQ
       go_loud (
       refine (samep_any XP nP cP o XQ nQ cQ o _ (by omega) SP.out SQ.out).mono ?_
       rintro r w_ ⟨rfl, hb⟩
       have SP := hide (SP.out.below hb)
       have SZ := hide (SZ.out.below hb)
       have HW := hide (Below.then_ HW.out hb)
       clear hb
       rw [decide_eq_true rfl]))
    | (go_at_call_of 15 XZ
       go_loud (
       refine (samep_any XP nP cP o XZ nZ cZ o _ (by omega) SP.out SZ.out).mono ?_
       rintro r w_ ⟨rfl, hb⟩
       have HW := hide (Below.then_ HW.out hb)
       clear hb
       rw [decide_eq_true rfl]))
    | (go_at_call 9
       go_loud (
       refine (awake_any _).mono ?_
       rintro r w_ ⟨rfl, hb⟩
       have HW := hide (Below.then_ HW.out hb)
       clear hb)))
  go_ret
  exact ⟨rfl, HW.out⟩
end Go.Proofs.Ytcmlegpfapomnaa

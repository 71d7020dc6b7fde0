/- The walk of DeltaViews. -/
import Derived.Test.YtcmlegpfapomnaaDq
namespace Go.Proofs.Ytcmlegpfapomnaa
open Go.RowKit Go.Instr
open Go.Op (bytesLess)
theorem apl_code (L : List Pr) (D : List Ch) : (apl L D).2 = 0 ∨ (apl L D).2 = 4 ∨ (apl L D).2 = 11 ∨ (apl L D).2 = 12 := by
  rw [apl_rapl, rapl]
  split
  · rcases chk_is D with h | h | h <;> simp [h]
  · split
    · simp
    · split <;> simp
theorem thn_code (D E : List Ch) : (thn D E).2 = 0 ∨ (thn D E).2 = 4 ∨ (thn D E).2 = 11 ∨ (thn D E).2 = 12 := by
  rw [thn_rthn, rthn]
  split
  · rcases chk_is D with h | h | h <;> simp [h]
  · split
    · rcases chk_is E with h | h | h <;> simp [h]
    · split <;> simp
set_option maxRecDepth 20000 in
set_option maxHeartbeats 32000000 in
theorem views_law (A : Option Addr) (n c : Nat) (L : List Pr) (B : Option Addr) (m d : Nat) (M : List Pr) (C : Option Addr) (p e : Nat) (D : List Ch) (w : World) (hc : n ≤ c) (hd : m ≤ d) (he : p ≤ e) (hA : Rp w A n L) (hB : Rp w B m M) (hC : Rch w C p D) :
    Calls Try.prog 5 #[.slice A n c, .slice B m d, .slice C p e] w fun e w' => e = .returned (.bool true) ∧ Below w.heap.size w w' := by
  have HW := hide (Below.refl w.heap.size w)
  have HA := hide hA
  have HLA := hide hA.len
  have HCA := hide hc
  have HB := hide hB
  have HLB := hide hB.len
  have HCB := hide hd
  have HC := hide hC
  have HLC := hide hC.len
  have HCC := hide he
  clear hA hc hB hd hC he
  by_cases gn : 40 < n
  case pos =>
    have Gn : (40 : Int) < (n : Int) := by omega
    go_enter Try.func5, Try.ntmps5
    go_wp2_with (first
    | (go_at_call 9
       go_loud (
       refine (awake_any _).mono ?_
       rintro r w_ ⟨rfl, hb⟩
       have HW := hide (Below.then_ HW.out hb)
       clear hb)))
    go_ret
    exact ⟨rfl, HW.out⟩
  have Gn : ¬ (40 : Int) < (n : Int) := by omega
  by_cases gm : 40 < m
  case pos =>
    have Gm : (40 : Int) < (m : Int) := by omega
    go_enter Try.func5, Try.ntmps5
    go_wp2_with (first
    | (go_at_call 9
       go_loud (
       refine (awake_any _).mono ?_
       rintro r w_ ⟨rfl, hb⟩
       have HW := hide (Below.then_ HW.out hb)
       clear hb)))
    go_ret
    exact ⟨rfl, HW.out⟩
  have Gm : ¬ (40 : Int) < (m : Int) := by omega
  by_cases gp : 40 < p
  case pos =>
    have Gp : (40 : Int) < (p : Int) := by omega
    go_enter Try.func5, Try.ntmps5
    go_wp2_with (first
    | (go_at_call 9
       go_loud (
       refine (awake_any _).mono ?_
       rintro r w_ ⟨rfl, hb⟩
       have HW := hide (Below.then_ HW.out hb)
       clear hb)))
    go_ret
    exact ⟨rfl, HW.out⟩
  have Gp : ¬ (40 : Int) < (p : Int) := by omega
  obtain ⟨O, hO⟩ : ∃ O, (apl L D).1 = O := ⟨_, rfl⟩
  obtain ⟨E, hE⟩ : ∃ E, (apl L D).2 = E := ⟨_, rfl⟩
  have hE4 : E = 0 ∨ E = 4 ∨ E = 11 ∨ E = 12 := by rw [← hE]; exact apl_code L D
  have AP := hide (show apl L D = (O, E) from Prod.ext hO hE)
  have Ol : O.length ≤ 80 := by rw [← hO]; have := apl_len L D; have := HLA.out; have := HLC.out; omega
  have hw1 : IntKind.i64.wrap E = E := by rcases hE4 with h | h | h | h <;> rw [h] <;> rfl
  have hw2 : wrap64 E = E := by unfold wrap64; omega
  clear hE4 hO hE
  go_enter Try.func5, Try.ntmps5
  go_wp2_with (first
    | (go_at_call 17
       go_loud (
       refine (own_any C p e D _ (by omega) HC.out).mono ?_
       rintro r w_ ⟨v, rfl, ⟨XX, nX, cX, rfl, hc, hr⟩, hb⟩
       have HA := hide (HA.out.below hb)
       have HB := hide (HB.out.below hb)
       have HC := hide (HC.out.below hb)
       have HW := hide (Below.then_ HW.out hb)
       clear hb
       have lX : nX ≤ 40 := by have := hr.len; have := HLC.out; omega
       have SX := hide hr
       have CX := hide hc
       clear hr hc))
    | (go_at_call 12
       go_loud (
       refine (apl_any A n c L XX nX cX D _ (by omega) HA.out HCA.out SX.out CX.out).mono ?_
       rintro r w_ ⟨v, rfl, ⟨XP, nP, cP, rfl, hc, hr⟩, hb⟩
       have HA := hide (HA.out.below hb)
       have HB := hide (HB.out.below hb)
       have HC := hide (HC.out.below hb)
       have HW := hide (Below.then_ HW.out hb)
       clear hb
       rw [AP.out] at hr ⊢
       dsimp only at hr
       have lP : nP ≤ 80 := by have := hr.len; omega
       have SP := hide hr
       have CP := hide hc
       clear hr hc))
    | (go_at_call 18
       go_loud (
       refine (rapl_any A n c L C p e D _ (by omega) HA.out HC.out).mono ?_
       rintro r w_ ⟨v, rfl, ⟨XQ, nQ, cQ, rfl, hc, hr⟩, hb⟩
       have HA := hide (HA.out.below hb)
       have HB := hide (HB.out.below hb)
       have HC := hide (HC.out.below hb)
       have SP := hide (SP.out.below hb)
       have HW := hide (Below.then_ HW.out hb)
       clear hb
       rw [← apl_rapl, AP.out] at hr ⊢
       dsimp only at hr
       have lQ : nQ ≤ 80 := by have := hr.len; omega
       have SQ := hide hr
       have CQ := hide hc
       clear hr hc))
    | (go_at_call 10
       go_loud (
       refine (btw_any A n c L B m d M _ (by omega) HA.out HCA.out HB.out HCB.out).mono ?_
       rintro r w_ ⟨v, rfl, ⟨XU, nU, cU, rfl, hc, hr⟩, hb⟩
       have HA := hide (HA.out.below hb)
       have HB := hide (HB.out.below hb)
       have HC := hide (HC.out.below hb)
       have SP := hide (SP.out.below hb)
       have SQ := hide (SQ.out.below hb)
       have HW := hide (Below.then_ HW.out hb)
       clear hb
       have lU : nU ≤ 80 := by have := hr.len; have := btw_len L M; have := HLA.out; have := HLB.out; omega
       have SU := hide hr
       have CU := hide hc
       clear hr hc))
    | (go_at_call 20
       go_loud (
       refine (rbtw_any A n c L B m d M _ (by omega) HA.out HB.out).mono ?_
       rintro r w_ ⟨v, rfl, ⟨XV, nV, cV, rfl, hc, hr⟩, hb⟩
       have SP := hide (SP.out.below hb)
       have SQ := hide (SQ.out.below hb)
       have SU := hide (SU.out.below hb)
       have HW := hide (Below.then_ HW.out hb)
       clear hb
       rw [← btw_rbtw] at hr
       have SV := hide hr
       have CV := hide hc
       clear hr hc))
    | (go_at_call 19
       go_loud (
       refine (lsame_any XU nU cU (btw L M) XV nV cV (btw L M) _ (by omega) SU.out SV.out).mono ?_
       rintro r w_ ⟨rfl, hb⟩
       have SP := hide (SP.out.below hb)
       have SQ := hide (SQ.out.below hb)
       have HW := hide (Below.then_ HW.out hb)
       clear hb
       rw [decide_eq_true rfl]))
    | (go_at_call 15
       go_loud (
       refine (samep_any XP nP cP O XQ nQ cQ O _ (by omega) SP.out SQ.out).mono ?_
       rintro r w_ ⟨rfl, hb⟩
       have HW := hide (Below.then_ HW.out hb)
       clear hb
       rw [decide_eq_true rfl]))
    | (go_at_call 9
       go_loud (
       refine (awake_any _).mono ?_
       rintro r w_ ⟨rfl, hb⟩
       have HW := hide (Below.then_ HW.out hb)
       clear hb)))
  go_ret
  exact ⟨rfl, HW.out⟩
end Go.Proofs.Ytcmlegpfapomnaa

/- The walk of together of two deltas. -/
import Derived.Test.YtcmlegpfapomnaaDg
namespace Go.Proofs.Ytcmlegpfapomnaa
open Go.RowKit
open Go.Op (bytesLess)
set_option maxHeartbeats 16000000 in
theorem tog32 (w0 w : World) (P : Nat) (A : Option Addr) (n c : Nat) (L : List Ch) (B : Option Addr) (m d : Nat) (M : List Ch) (hP0 : w0.heap.size ≤ P) (hb0 : Below w0.heap.size w0 w) (hA : Rch w0 A n L) (hnc : n ≤ c) (hB : Rch w0 B m M) (hmd : m ≤ d) (hs : n + m ≤ 500) (hO : OutC w P []) :
    Calls Try.prog 32 #[.slice A n c, .slice B m d, .func (.func 33) #[] #[], .func (.func 33) #[] #[], .func (.func 34) #[] #[.pointer (some ⟨P, 0, none⟩)]] w fun e w' =>
      e = .returned (.bool (gath thenOk thenOut [] (mrg Ch.k Ch.k L M)).isSome) ∧ Below P w w' ∧ ∀ o, gath thenOk thenOut [] (mrg Ch.k Ch.k L M) = some o → OutC w' P o := by
  obtain ⟨R, hR⟩ : ∃ R, gath thenOk thenOut [] (mrg Ch.k Ch.k L M) = R := ⟨_, rfl⟩
  rw [hR]
  have HAA := hide hA
  have HBB := hide hB
  have HOO := hide hO
  have HRR := hide hR
  have H0 := hide hb0
  have HP0 := hide hP0
  clear hA hB hO hR hb0 hP0
  go_enter Try.func32, Try.ntmps32
  go_wp2_with fail
  go_loopw [0, 1, 11, 12, 13] (fun a b _ _ _ wr => ∃ (n' c' : Nat) (A' : Option Addr) (As : List Ch) (m' d' : Nat) (B' : Option Addr) (Bs : List Ch) (Out : List Ch), a = .slice A' n' c' ∧ n' ≤ c' ∧ Rch w0 A' n' As ∧ b = .slice B' m' d' ∧ m' ≤ d' ∧ Rch w0 B' m' Bs ∧ OutC wr P Out ∧ Out.length + n' + m' ≤ 500 ∧ gath thenOk thenOut Out (mrg Ch.k Ch.k As Bs) = R ∧ Below P w wr) (fun a b _ _ _ _ => lenV a + lenV b)
  case atStart => exact ⟨n, c, A, L, m, d, B, M, [], rfl, hnc, HAA.out, rfl, hmd, HBB.out, HOO.out, by simp; omega, HRR.out, Below.refl _ _⟩
  case round =>
    obtain ⟨n', c', A', As, m', d', B', Bs, Out, rfl, hc, hra, rfl, hd, hrb, hout, hlen, hg, hbr⟩ := hrel
    have RA := hide hra
    have RB := hide hrb
    have OT := hide hout
    have HG := hide hg
    have HB := hide hbr
    have HC := hide hc
    have HD := hide hd
    have hal := hra.len
    have hbl := hrb.len
    have PP := hide (show P < wr.heap.size by obtain ⟨_, _, _, h, _⟩ := hout; exact h.lt)
    have HB0 := hide (show Below w0.heap.size w0 wr from H0.out.trans (hbr.mono HP0.out))
    clear hc hra hd hrb hout hg hbr
    cases As with
    | nil =>
      obtain rfl : n' = 0 := hal.symm
      cases Bs with
      | nil =>
        obtain rfl : m' = 0 := hbl.symm
        go_wp2_with fail
        go_ret
        have HG2 := HG.out
        rw [mrg_nn] at HG2
        unfold gath at HG2
        rw [← HG2]
        exact ⟨rfl, HB.out, fun o ho => by injection ho with ho; rw [← ho]; exact OT.out⟩
      | cons y ys =>
        obtain ⟨j, rfl⟩ : ∃ j, m' = j + 1 := ⟨ys.length, by simpa using hbl.symm⟩
        obtain ⟨bb, ob, rfl, hbb, q0, q1, q2, q3, q4⟩ := (RB.out.below HB0.out).head
        have pb := cut_c (some ⟨bb, ob, none⟩) j d'
        have TB := hide (RB.out.tail HD.out)
        obtain ⟨QB, hQB⟩ : ∃ Q, cut1 (some ⟨bb, ob, none⟩) d' 5 = Q := ⟨_, rfl⟩
        rw [hQB] at pb TB
        clear hQB
        have j0 : (0 : Int) < (j : Int) + 1 := by omega
        have y0 : ((j : Int) + 1 == 0) = false := by rw [beq_eq_false_iff_ne]; omega
        have HK := hide (Below.refl wr.heap.size wr)
        have L1 := th_len (none) (some y)
        have HG2 := HG.out
        rw [mrg_nb] at HG2
        unfold gath at HG2
        obtain ⟨q, hq⟩ : ∃ q, thenOk (none) (some y) = q := ⟨_, rfl⟩
        rw [hq] at HG2
        have HQ := hide hq
        have HG3 := hide HG2
        clear HG2 hq
        cases q
        all_goals
          go_wp2_with fail
          go_quiet (fail)
          go_wp2_with (
            go_at_call 34
            go_loud (
            refine (clo34 P _ Out (none) (some y) (none) (some ⟨bb, ob, none⟩) (OT.out.below (Below.drewN' HK.out _)) (by omega) (show CAt _ none none from rfl) (CAt.mk (Below.drewN' HK.out _) hbb q0 q1 q2 q3 q4) (.inr (by simp))).mono ?_
            rintro r w5 ⟨rfl, hbp, hok⟩
            rw [HQ.out] at hok ⊢
            have HB5 := hide (HB.out.trans (((Below.drewN' HK.out _).mono (Nat.le_of_lt PP.out)).trans hbp))
            have HOK := hide hok
            clear hbp hok))
        · go_ret
          have e : R = none := by have := HG3.out; simpa using this.symm
          rw [e]
          exact ⟨rfl, HB5.out, fun o ho => by cases ho⟩
        · go_roundw
          case rel =>
            exact ⟨0, c', A', [], j, d' - 1, QB, ys, Out ++ thenOut (none) (some y), rfl, HC.out, RA.out, rfl, (by have := HD.out; omega), TB.out, HOK.out (by simp), by rw [List.length_append]; omega, by have := HG3.out; simpa using this, HB5.out⟩
          case measure => first | (simp [lenV]; done) | (simp [lenV]; omega)
    | cons x xs =>
      obtain ⟨k, rfl⟩ : ∃ k, n' = k + 1 := ⟨xs.length, by simpa using hal.symm⟩
      cases Bs with
      | nil =>
        obtain rfl : m' = 0 := hbl.symm
        obtain ⟨ba, oa, rfl, hba, g0, g1, g2, g3, g4⟩ := (RA.out.below HB0.out).head
        have pa := cut_c (some ⟨ba, oa, none⟩) k c'
        have TA := hide (RA.out.tail HC.out)
        obtain ⟨QA, hQA⟩ : ∃ Q, cut1 (some ⟨ba, oa, none⟩) c' 5 = Q := ⟨_, rfl⟩
        rw [hQA] at pa TA
        clear hQA
        have i0 : (0 : Int) < (k : Int) + 1 := by omega
        have z0 : ((k : Int) + 1 == 0) = false := by rw [beq_eq_false_iff_ne]; omega
        have HK := hide (Below.refl wr.heap.size wr)
        have L1 := th_len (some x) (none)
        have HG2 := HG.out
        rw [mrg_an] at HG2
        unfold gath at HG2
        obtain ⟨q, hq⟩ : ∃ q, thenOk (some x) (none) = q := ⟨_, rfl⟩
        rw [hq] at HG2
        have HQ := hide hq
        have HG3 := hide HG2
        clear HG2 hq
        cases q
        all_goals
          go_wp2_with fail
          go_quiet (fail)
          go_wp2_with (
            go_at_call 34
            go_loud (
            refine (clo34 P _ Out (some x) (none) (some ⟨ba, oa, none⟩) (none) (OT.out.below (Below.drewN' HK.out _)) (by omega) (CAt.mk (Below.drewN' HK.out _) hba g0 g1 g2 g3 g4) (show CAt _ none none from rfl) (.inl (by simp))).mono ?_
            rintro r w5 ⟨rfl, hbp, hok⟩
            rw [HQ.out] at hok ⊢
            have HB5 := hide (HB.out.trans (((Below.drewN' HK.out _).mono (Nat.le_of_lt PP.out)).trans hbp))
            have HOK := hide hok
            clear hbp hok))
        · go_ret
          have e : R = none := by have := HG3.out; simpa using this.symm
          rw [e]
          exact ⟨rfl, HB5.out, fun o ho => by cases ho⟩
        · go_roundw
          case rel =>
            exact ⟨k, c' - 1, QA, xs, 0, d', B', [], Out ++ thenOut (some x) (none), rfl, (by have := HC.out; omega), TA.out, rfl, HD.out, RB.out, HOK.out (by simp), by rw [List.length_append]; omega, by have := HG3.out; simpa using this, HB5.out⟩
          case measure => first | (simp [lenV]; done) | (simp [lenV]; omega)
      | cons y ys =>
        obtain ⟨j, rfl⟩ : ∃ j, m' = j + 1 := ⟨ys.length, by simpa using hbl.symm⟩
        obtain ⟨ba, oa, rfl, hba, g0, g1, g2, g3, g4⟩ := (RA.out.below HB0.out).head
        have pa := cut_c (some ⟨ba, oa, none⟩) k c'
        have TA := hide (RA.out.tail HC.out)
        obtain ⟨QA, hQA⟩ : ∃ Q, cut1 (some ⟨ba, oa, none⟩) c' 5 = Q := ⟨_, rfl⟩
        rw [hQA] at pa TA
        clear hQA
        have i0 : (0 : Int) < (k : Int) + 1 := by omega
        have z0 : ((k : Int) + 1 == 0) = false := by rw [beq_eq_false_iff_ne]; omega
        obtain ⟨bb, ob, rfl, hbb, q0, q1, q2, q3, q4⟩ := (RB.out.below HB0.out).head
        have pb := cut_c (some ⟨bb, ob, none⟩) j d'
        have TB := hide (RB.out.tail HD.out)
        obtain ⟨QB, hQB⟩ : ∃ Q, cut1 (some ⟨bb, ob, none⟩) d' 5 = Q := ⟨_, rfl⟩
        rw [hQB] at pb TB
        clear hQB
        have j0 : (0 : Int) < (j : Int) + 1 := by omega
        have y0 : ((j : Int) + 1 == 0) = false := by rw [beq_eq_false_iff_ne]; omega
        have HK := hide (show Below wr.heap.size wr wr.drew from (Below.refl wr.heap.size wr).drew)
        have KX := hide (fun w => nthC_key x w)
        have KY := hide (fun w => nthC_key y w)
        rcases cmp_range x.k y.k with hI | hI | hI
        · have HI := hide hI
          have L1 := th_len (some x) (none)
          have HG2 := HG.out
          rw [mrg_lt _ _ _ _ _ _ HI.out] at HG2
          unfold gath at HG2
          obtain ⟨q, hq⟩ : ∃ q, thenOk (some x) (none) = q := ⟨_, rfl⟩
          rw [hq] at HG2
          have HQ := hide hq
          have HG3 := hide HG2
          clear HG2 hq
          cases q
          all_goals
            go_wp2_with fail
            go_region_held (fun z => z.cell? ⟨ba, oa, none⟩ = some (.string ⟨x.k.toArray⟩) ∧ z.cell? ⟨ba, oa + 1, none⟩ = some (.string ⟨x.was.toArray⟩) ∧ z.cell? ⟨ba, oa + 2, none⟩ = some (.string ⟨x.now.toArray⟩) ∧ z.cell? ⟨ba, oa + 3, none⟩ = some (.bool x.had) ∧ z.cell? ⟨ba, oa + 4, none⟩ = some (.bool x.has) ∧ z.cell? ⟨bb, ob, none⟩ = some (.string ⟨y.k.toArray⟩) ∧ z.cell? ⟨bb, ob + 1, none⟩ = some (.string ⟨y.was.toArray⟩) ∧ z.cell? ⟨bb, ob + 2, none⟩ = some (.string ⟨y.now.toArray⟩) ∧ z.cell? ⟨bb, ob + 3, none⟩ = some (.bool y.had) ∧ z.cell? ⟨bb, ob + 4, none⟩ = some (.bool y.has))
              (first | go_keep | exact ⟨(HK.out.cell (p := ⟨ba, oa, none⟩) hba).trans g0, (HK.out.cell (p := ⟨ba, oa + 1, none⟩) hba).trans g1, (HK.out.cell (p := ⟨ba, oa + 2, none⟩) hba).trans g2, (HK.out.cell (p := ⟨ba, oa + 3, none⟩) hba).trans g3, (HK.out.cell (p := ⟨ba, oa + 4, none⟩) hba).trans g4, (HK.out.cell (p := ⟨bb, ob, none⟩) hbb).trans q0, (HK.out.cell (p := ⟨bb, ob + 1, none⟩) hbb).trans q1, (HK.out.cell (p := ⟨bb, ob + 2, none⟩) hbb).trans q2, (HK.out.cell (p := ⟨bb, ob + 3, none⟩) hbb).trans q3, (HK.out.cell (p := ⟨bb, ob + 4, none⟩) hbb).trans q4⟩)
              (first
                | (go_at_call_of 33 x.k.toArray
                   refine (KX.out _).mono ?_
                   rintro r w1 ⟨rfl, hk⟩
                   have HK := hide (Below.then_ HK.out hk)
                   clear hk)
                | (go_at_call_of 33 y.k.toArray
                   refine (KY.out _).mono ?_
                   rintro r w2 ⟨rfl, hk⟩
                   have HK := hide (Below.then_ HK.out hk)
                   clear hk)
                | (go_at_call 46
                   refine (cmp_any x.k y.k _).mono ?_
                   rintro r w3 ⟨rfl, rfl⟩
                   rw [HI.out]))
            go_wp2_with fail
            go_quiet (fail)
            go_wp2_with (
              go_at_call 34
              go_loud (
              refine (clo34 P _ Out (some x) (none) (some ⟨ba, oa, none⟩) (none) (OT.out.below (Below.drewN' HK.out _)) (by omega) (CAt.mk (Below.drewN' HK.out _) hba g0 g1 g2 g3 g4) (show CAt _ none none from rfl) (.inl (by simp))).mono ?_
              rintro r w5 ⟨rfl, hbp, hok⟩
              rw [HQ.out] at hok ⊢
              have HB5 := hide (HB.out.trans (((Below.drewN' HK.out _).mono (Nat.le_of_lt PP.out)).trans hbp))
              have HOK := hide hok
              clear hbp hok))
          · go_ret
            have e : R = none := by have := HG3.out; simpa using this.symm
            rw [e]
            exact ⟨rfl, HB5.out, fun o ho => by cases ho⟩
          · go_roundw
            case rel =>
              exact ⟨k, c' - 1, QA, xs, j + 1, d', (some ⟨bb, ob, none⟩), (y :: ys), Out ++ thenOut (some x) (none), rfl, (by have := HC.out; omega), TA.out, rfl, HD.out, RB.out, HOK.out (by simp), by rw [List.length_append]; omega, by have := HG3.out; simpa using this, HB5.out⟩
            case measure => first | (simp [lenV]; done) | (simp [lenV]; omega)
        · have HI := hide hI
          have L1 := th_len (some x) (some y)
          have HG2 := HG.out
          rw [mrg_eq _ _ _ _ _ _ HI.out] at HG2
          unfold gath at HG2
          obtain ⟨q, hq⟩ : ∃ q, thenOk (some x) (some y) = q := ⟨_, rfl⟩
          rw [hq] at HG2
          have HQ := hide hq
          have HG3 := hide HG2
          clear HG2 hq
          cases q
          all_goals
            go_wp2_with fail
            go_region_held (fun z => z.cell? ⟨ba, oa, none⟩ = some (.string ⟨x.k.toArray⟩) ∧ z.cell? ⟨ba, oa + 1, none⟩ = some (.string ⟨x.was.toArray⟩) ∧ z.cell? ⟨ba, oa + 2, none⟩ = some (.string ⟨x.now.toArray⟩) ∧ z.cell? ⟨ba, oa + 3, none⟩ = some (.bool x.had) ∧ z.cell? ⟨ba, oa + 4, none⟩ = some (.bool x.has) ∧ z.cell? ⟨bb, ob, none⟩ = some (.string ⟨y.k.toArray⟩) ∧ z.cell? ⟨bb, ob + 1, none⟩ = some (.string ⟨y.was.toArray⟩) ∧ z.cell? ⟨bb, ob + 2, none⟩ = some (.string ⟨y.now.toArray⟩) ∧ z.cell? ⟨bb, ob + 3, none⟩ = some (.bool y.had) ∧ z.cell? ⟨bb, ob + 4, none⟩ = some (.bool y.has))
              (first | go_keep | exact ⟨(HK.out.cell (p := ⟨ba, oa, none⟩) hba).trans g0, (HK.out.cell (p := ⟨ba, oa + 1, none⟩) hba).trans g1, (HK.out.cell (p := ⟨ba, oa + 2, none⟩) hba).trans g2, (HK.out.cell (p := ⟨ba, oa + 3, none⟩) hba).trans g3, (HK.out.cell (p := ⟨ba, oa + 4, none⟩) hba).trans g4, (HK.out.cell (p := ⟨bb, ob, none⟩) hbb).trans q0, (HK.out.cell (p := ⟨bb, ob + 1, none⟩) hbb).trans q1, (HK.out.cell (p := ⟨bb, ob + 2, none⟩) hbb).trans q2, (HK.out.cell (p := ⟨bb, ob + 3, none⟩) hbb).trans q3, (HK.out.cell (p := ⟨bb, ob + 4, none⟩) hbb).trans q4⟩)
              (first
                | (go_at_call_of 33 x.k.toArray
                   refine (KX.out _).mono ?_
                   rintro r w1 ⟨rfl, hk⟩
                   have HK := hide (Below.then_ HK.out hk)
                   clear hk)
                | (go_at_call_of 33 y.k.toArray
                   refine (KY.out _).mono ?_
                   rintro r w2 ⟨rfl, hk⟩
                   have HK := hide (Below.then_ HK.out hk)
                   clear hk)
                | (go_at_call 46
                   refine (cmp_any x.k y.k _).mono ?_
                   rintro r w3 ⟨rfl, rfl⟩
                   rw [HI.out]))
            go_wp2_with fail
            go_quiet (fail)
            go_wp2_with fail
            go_quiet (fail)
            go_wp2_with (
              go_at_call 34
              go_loud (
              refine (clo34 P _ Out (some x) (some y) (some ⟨ba, oa, none⟩) (some ⟨bb, ob, none⟩) (OT.out.below (Below.drewN' HK.out _)) (by omega) (CAt.mk (Below.drewN' HK.out _) hba g0 g1 g2 g3 g4) (CAt.mk (Below.drewN' HK.out _) hbb q0 q1 q2 q3 q4) (.inl (by simp))).mono ?_
              rintro r w5 ⟨rfl, hbp, hok⟩
              rw [HQ.out] at hok ⊢
              have HB5 := hide (HB.out.trans (((Below.drewN' HK.out _).mono (Nat.le_of_lt PP.out)).trans hbp))
              have HOK := hide hok
              clear hbp hok))
          · go_ret
            have e : R = none := by have := HG3.out; simpa using this.symm
            rw [e]
            exact ⟨rfl, HB5.out, fun o ho => by cases ho⟩
          · go_roundw
            case rel =>
              exact ⟨k, c' - 1, QA, xs, j, d' - 1, QB, ys, Out ++ thenOut (some x) (some y), rfl, (by have := HC.out; omega), TA.out, rfl, (by have := HD.out; omega), TB.out, HOK.out (by simp), by rw [List.length_append]; omega, by have := HG3.out; simpa using this, HB5.out⟩
            case measure => first | (simp [lenV]; done) | (simp [lenV]; omega)
        · have HI := hide hI
          have L1 := th_len (none) (some y)
          have HG2 := HG.out
          rw [mrg_gt _ _ _ _ _ _ HI.out] at HG2
          unfold gath at HG2
          obtain ⟨q, hq⟩ : ∃ q, thenOk (none) (some y) = q := ⟨_, rfl⟩
          rw [hq] at HG2
          have HQ := hide hq
          have HG3 := hide HG2
          clear HG2 hq
          cases q
          all_goals
            go_wp2_with fail
            go_region_held (fun z => z.cell? ⟨ba, oa, none⟩ = some (.string ⟨x.k.toArray⟩) ∧ z.cell? ⟨ba, oa + 1, none⟩ = some (.string ⟨x.was.toArray⟩) ∧ z.cell? ⟨ba, oa + 2, none⟩ = some (.string ⟨x.now.toArray⟩) ∧ z.cell? ⟨ba, oa + 3, none⟩ = some (.bool x.had) ∧ z.cell? ⟨ba, oa + 4, none⟩ = some (.bool x.has) ∧ z.cell? ⟨bb, ob, none⟩ = some (.string ⟨y.k.toArray⟩) ∧ z.cell? ⟨bb, ob + 1, none⟩ = some (.string ⟨y.was.toArray⟩) ∧ z.cell? ⟨bb, ob + 2, none⟩ = some (.string ⟨y.now.toArray⟩) ∧ z.cell? ⟨bb, ob + 3, none⟩ = some (.bool y.had) ∧ z.cell? ⟨bb, ob + 4, none⟩ = some (.bool y.has))
              (first | go_keep | exact ⟨(HK.out.cell (p := ⟨ba, oa, none⟩) hba).trans g0, (HK.out.cell (p := ⟨ba, oa + 1, none⟩) hba).trans g1, (HK.out.cell (p := ⟨ba, oa + 2, none⟩) hba).trans g2, (HK.out.cell (p := ⟨ba, oa + 3, none⟩) hba).trans g3, (HK.out.cell (p := ⟨ba, oa + 4, none⟩) hba).trans g4, (HK.out.cell (p := ⟨bb, ob, none⟩) hbb).trans q0, (HK.out.cell (p := ⟨bb, ob + 1, none⟩) hbb).trans q1, (HK.out.cell (p := ⟨bb, ob + 2, none⟩) hbb).trans q2, (HK.out.cell (p := ⟨bb, ob + 3, none⟩) hbb).trans q3, (HK.out.cell (p := ⟨bb, ob + 4, none⟩) hbb).trans q4⟩)
              (first
                | (go_at_call_of 33 x.k.toArray
                   refine (KX.out _).mono ?_
                   rintro r w1 ⟨rfl, hk⟩
                   have HK := hide (Below.then_ HK.out hk)
                   clear hk)
                | (go_at_call_of 33 y.k.toArray
                   refine (KY.out _).mono ?_
                   rintro r w2 ⟨rfl, hk⟩
                   have HK := hide (Below.then_ HK.out hk)
                   clear hk)
                | (go_at_call 46
                   refine (cmp_any x.k y.k _).mono ?_
                   rintro r w3 ⟨rfl, rfl⟩
                   rw [HI.out]))
            go_wp2_with fail
            go_quiet (fail)
            go_wp2_with (
              go_at_call 34
              go_loud (
              refine (clo34 P _ Out (none) (some y) (none) (some ⟨bb, ob, none⟩) (OT.out.below (Below.drewN' HK.out _)) (by omega) (show CAt _ none none from rfl) (CAt.mk (Below.drewN' HK.out _) hbb q0 q1 q2 q3 q4) (.inr (by simp))).mono ?_
              rintro r w5 ⟨rfl, hbp, hok⟩
              rw [HQ.out] at hok ⊢
              have HB5 := hide (HB.out.trans (((Below.drewN' HK.out _).mono (Nat.le_of_lt PP.out)).trans hbp))
              have HOK := hide hok
              clear hbp hok))
          · go_ret
            have e : R = none := by have := HG3.out; simpa using this.symm
            rw [e]
            exact ⟨rfl, HB5.out, fun o ho => by cases ho⟩
          · go_roundw
            case rel =>
              exact ⟨k + 1, c', (some ⟨ba, oa, none⟩), (x :: xs), j, d' - 1, QB, ys, Out ++ thenOut (none) (some y), rfl, HC.out, RA.out, rfl, (by have := HD.out; omega), TB.out, HOK.out (by simp), by rw [List.length_append]; omega, by have := HG3.out; simpa using this, HB5.out⟩
            case measure => first | (simp [lenV]; done) | (simp [lenV]; omega)
end Go.Proofs.Ytcmlegpfapomnaa

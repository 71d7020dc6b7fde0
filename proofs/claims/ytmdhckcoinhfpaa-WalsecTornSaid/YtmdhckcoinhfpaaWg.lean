/- The walk of the reference's Pack. -/
import Derived.Test.YtmdhckcoinhfpaaWf
namespace Go.Proofs.Ytmdhckcoinhfpaa
open Go.RowKit

theorem rpack_range (e f : Int) (A : Option Addr) (n c : Nat) (L : List Tx) (w : World) (hn : n ≤ 1000) (h : Rs w A n L) (hf : -9223372036854775808 ≤ f ∧ f ≤ 9223372036854775807) (hr : e < 1 ∨ 1099511627776 < e ∨ f < 0 ∨ 256 - (parts L : Int) < f) :
    Calls Try.prog 10 #[.int .i64 e, .int .i64 f, .slice A n c] w (PackPost 5 e f L w) := by
  have HE := hide (packE_range hr)
  have PA := hide (rparts_any A n c L w (by omega) h)
  have hp := parts_le L
  have hl := h.len
  obtain ⟨p, hp2⟩ : ∃ p, parts L = p := ⟨_, rfl⟩
  rw [hp2] at PA hp hr
  have hpb : p ≤ 1000 := by omega
  clear h hp2 hp hl
  by_cases h1 : e < 1
  · have d1 : decide (e < 1) = true := decide_eq_true h1
    clear hr h1
    go_enter Try.func10, Try.ntmps10
    go_wp2_with fail
    go_ret2
    exact pack_no HE.out (Below.refl _ _)
  · have d1 : decide (e < 1) = false := decide_eq_false h1
    by_cases h2 : 1099511627776 < e
    · have d2 : decide (1099511627776 < e) = true := decide_eq_true h2
      clear hr h1 h2
      go_enter Try.func10, Try.ntmps10
      go_wp2_with fail
      go_ret2
      exact pack_no HE.out (Below.refl _ _)
    · have d2 : decide (1099511627776 < e) = false := decide_eq_false h2
      by_cases h3 : f < 0
      · have d3 : decide (f < 0) = true := decide_eq_true h3
        clear hr h1 h2 h3
        go_enter Try.func10, Try.ntmps10
        go_wp2_with fail
        go_ret2
        exact pack_no HE.out (Below.refl _ _)
      · have d3 : decide (f < 0) = false := decide_eq_false h3
        have d4 : decide (256 - (p : Int) < f) = true := by simp; omega
        clear hr h1 h2 h3
        go_enter Try.func10, Try.ntmps10
        go_wp2_with (go_at_call 13; refine PA.out.mono ?_; rintro r w1 ⟨rfl, hb1⟩)
        go_ret2
        exact pack_no HE.out hb1
/-- One group of those that the call made. -/
theorem Gs.at_ {w : World} {base : Nat} {O : Option Addr} {c : Nat} {P : List (List Tx)} (h : Gs w base O c P) {k : Nat} (hk : k < P.length) :
    ∃ gO A n d, O = some ⟨gO, 0, none⟩ ∧ w.cell? ⟨gO, k, none⟩ = some (.slice A n d) ∧ Rs w A n (P.getD k []) ∧ n ≤ d ∧ gO < w.heap.size := by
  obtain ⟨vs, ho, hi⟩ := h
  obtain ⟨gO, cap, hv, _, hlt⟩ := ho.form (by omega)
  injection hv with e1 e2 e3
  subst e1
  subst e3
  have hp : P[k]? = some (P.getD k []) := by simp [List.getD, hk]
  obtain ⟨A, n, d, h1, h2⟩ := hi k _ hp
  exact ⟨gO, A, n, d, rfl, by rw [ho.cellAt k (by omega), h1], Rs.of_own h2, (own_cap h2).1, hlt⟩
set_option maxRecDepth 4000 in
set_option maxHeartbeats 16000000 in
theorem rpack_in (e f : Int) (A : Option Addr) (n c : Nat) (L : List Tx) (w : World) (hn : n ≤ 1000) (h : Rs w A n L) (hr : ¬ (e < 1 ∨ 1099511627776 < e ∨ f < 0 ∨ 256 - (parts L : Int) < f)) :
    Calls Try.prog 10 #[.int .i64 e, .int .i64 f, .slice A n c] w (PackPost 5 e f L w) := by
  have HR := hide hr
  have PA := hide (rparts_any A n c L w (by omega) h)
  have GA := hide (fun w h => groups_any A n c L w (by omega) h)
  have H := hide h
  have HL := hide h.len
  obtain ⟨p, hp2⟩ : ∃ p, parts L = p := ⟨_, rfl⟩
  have HPP := hide hp2
  have HPL := hide (show p ≤ 1000 by rw [← hp2]; have := parts_le L; have := h.len; omega)
  rw [hp2] at PA hr
  obtain ⟨P, hP⟩ : ∃ P, pieces L = P := ⟨_, rfl⟩
  have HP := hide hP
  have HPK := hide (show P.length = p by rw [← hP]; exact hp2)
  unfold GroupsPost at GA
  rw [hP, show P.length = p from HPK.out] at GA
  have d0 : decide (e < 1) = false := decide_eq_false (by omega)
  have d1 : decide (1099511627776 < e) = false := decide_eq_false (by omega)
  have d2 : decide (f < 0) = false := decide_eq_false (by omega)
  have d3 : decide (256 - (p : Int) < f) = false := by simp; omega
  have HE1 := hide (show 1 ≤ e ∧ e ≤ 1099511627776 ∧ 0 ≤ f ∧ f + (p : Int) ≤ 256 by omega)
  have hpb : (p : Int) ≤ 1000 := by have := HPL.out; omega
  clear h hp2 hr hP
  go_enter Try.func10, Try.ntmps10
  go_wp2_with (first
    | (go_at_call 13; refine PA.out.mono ?_; rintro r w1 ⟨rfl, hb1⟩)
    | (go_at_call 23; refine (GA.out _ (H.out.below hb1)).mono ?_; rintro r w2 ⟨OG, cG, rfl, hg2, hb2⟩
       have G2 := hide hg2
       have HB2 := hide (Below.then_ hb1 hb2)
       clear hg2 hb2))
  have H2 := hide (H.out.below HB2.out)
  go_loop [10] (fun i => ∃ k : Nat, k ≤ n ∧ i = .int .i64 k ∧ ∀ j, j < k → (nthT L j).length ≤ 238) (fun i => n - (intOf i).toNat)
  case atStart => exact ⟨0, Nat.zero_le _, rfl, fun j hj => absurd hj (by omega)⟩
  case round =>
    obtain ⟨k, hk, rfl, hall⟩ := hrel
    have HA := hide hall
    clear hall
    by_cases hlt : k < n
    · obtain ⟨b, o, s, rfl, hb, hcell, hse, hsz⟩ := H2.out.cell_ hlt
      by_cases h3 : s.size ≤ 238
      · have d3 : decide (238 < (s.size : Int)) = false := by simp; omega
        have HA2 := hide (show ∀ j, j < k + 1 → (nthT L j).length ≤ 238 from fun j hj => by
          rcases Nat.lt_or_ge j k with h1 | h1
          · exact HA.out j h1
          · obtain rfl : j = k := by omega
            omega)
        clear hse hsz h3
        go_wp2_with fail
        go_round
        case rel => exact ⟨k + 1, by omega, by go_num, HA2.out⟩
        case measure => simp [intOf]; omega
      · have d3 : decide (238 < (s.size : Int)) = true := by simp; omega
        have HQ := hide (packE_big HR.out ⟨nthT L k, nthT_mem (by rw [HL.out]; exact hlt), by omega⟩)
        clear hse hsz h3
        go_wp2_with fail
        go_ret2
        exact pack_no HQ.out HB2.out
    · obtain rfl : k = n := by omega
      have HS := hide (show ∀ s ∈ L, s.length ≤ 238 from fun s hs => by
        obtain ⟨j, hj, rfl⟩ := List.getElem_of_mem hs
        have := HA.out j (by rw [← HL.out]; exact hj)
        simpa [nthT, List.getD, hj] using this)
      have HQ := hide (packE_ok HR.out (fun ⟨s, h1, h2⟩ => by have := HS.out s h1; omega))
      have HOKP := hide (show ∀ q ∈ P, costs q ≤ 239 ∧ ∀ s ∈ q, s.length ≤ 238 from fun q hq => by
        have h1 := pieces_ok L q (by rw [HP.out]; exact hq)
        refine ⟨h1.2, fun s hs => HS.out s ?_⟩
        rw [← pieces_flat L, HP.out]
        exact List.mem_flatten.2 ⟨q, hq, hs⟩)
      go_wp2_with fail
      go_loopw [9, 11] (fun out i wr => ∃ (k c : Nat) (O : Option Addr), k ≤ p ∧ i = .int .i64 k ∧ out = .slice O k c ∧ Obb 34 5 wr w2.heap.size O c k (packK e f P k) ∧ Below w2.heap.size w2 wr) (fun _ i _ => p - (intOf i).toNat)
      case atStart => exact ⟨0, 0, none, Nat.zero_le _, rfl, rfl, Obb.nil _ _, Below.refl _ _⟩
      case round =>
        obtain ⟨q, co, O, hq, rfl, rfl, hobb, hbr⟩ := hrel
        have OB := hide hobb
        have HB := hide hbr
        by_cases hqp : q < p
        · obtain ⟨gO, Ag, ng, dg, rfl, hcg, hrg, hngd, hgl⟩ := G2.out.at_ (k := q) (by rw [HPK.out]; exact hqp)
          have hcr : wr.cell? ⟨gO, q, none⟩ = some (.slice Ag ng dg) := (hbr.cell (p := ⟨gO, q, none⟩) hgl).trans hcg
          have RG := hide (hrg.below hbr)
          have hmem : P.getD q [] ∈ P := by
            have h1 : q < P.length := by rw [HPK.out]; exact hqp
            simp [List.getD, h1]
          have hcs := HOKP.out _ hmem
          obtain ⟨M, hM⟩ : ∃ M, P.getD q [] = M := ⟨_, rfl⟩
          rw [hM] at RG hcs
          have hng : ng ≤ 239 := by have := RG.out.len; have := length_le_costs M; omega
          have hok : secOk e (f + (q : Int)) := by have := HE1.out; exact ⟨by omega, by omega, by omega, by omega⟩
          have LA := hide (fun w h => rlay_any e (f + (q : Int)) hok Ag ng dg M w (by omega) h hcs.2 hcs.1)
          unfold RLayPost at LA
          have EK := hide (show packK e f P (q + 1) = packK e f P q ++ [layB (secN e (f + (q : Int))) M] by rw [packK_succ, hM])
          have hq63 := hide (show q + 1 ≤ maxLen by have := HPL.out; unfold maxLen; omega)
          have hqb := hide (show (q + 1) * 24 ≤ 140737488355328 by have := HPL.out; omega)
          have hf0 : 0 ≤ f := HE1.out.2.2.1
          have hf1 : f ≤ 256 := by have := HE1.out; omega
          have hq1 : q ≤ 1000 := by have := HPL.out; omega
          clear hobb hbr hrg hcg hmem hcs hM hok
          go_wp2_with (first
            | (go_at_call 24; refine (LA.out _ RG.out).mono ?_; rintro r w3 ⟨Ab, cb, rfl, hv3, hb3⟩
               have V3 := hide hv3
               have HB3 := hide hb3
               clear hv3 hb3)
            | ((with_reducible show wpList _ _ _ (⟨some 60, _, _, _, _, _⟩ :: _) _ _)
               obtain ⟨hl, vs, ho, hi⟩ := OB.out.below (Below.al HB3.out (.cells #[.slice Ab 256 cb] 34))
               have N6 : Rd (w3.alloc (.cells #[.slice Ab 256 cb] 34)) (some ⟨w3.heap.size, 0, none⟩) 1 1 [.slice Ab 256 cb] := (Vk.new w3 34 [.slice Ab 256 cb]).rd 1 1 rfl
               have N7 : w2.heap.size ≤ (w3.alloc (.cells #[.slice Ab 256 cb] 34)).heap.size := by simp; have := HB3.out.size; have := HB.out.size; omega
               have N8 : (w3.alloc (.cells #[.slice Ab 256 cb] 34)).ownsRow w2.heap.size 5 1 (.slice Ab 256 cb) 256 (by8 (layB (secN e (f + (q : Int))) M)) := own_mono (V3.out.alloc _) HB.out.size
               refine wpList_app rfl (.tmp 49) (.tmp 59) 25 rfl w2.heap.size 34 (.slice none 0 0) 1 24 Try.underlying25 info34 rfl (by omega) _ _ q vs rfl ho _ 1 _ [.slice Ab 256 cb] rfl N6 (by simp [Value.oneCell']) hq63.out hqb.out N7 ?_
               intro A6 c6 w6 hown hgr hz
               clear hz
               have O6 := hide (Obb.push (by decide) ⟨hl, vs, ho, hi⟩ hi ho N8 hown hgr)
               have HB6 := hide ((Below.al (Below.then_ HB.out HB3.out) _).grown hgr N7 (fun j hj => (own_lt ho j hj).1))
               clear hown hgr ho hi hl N6 N7 N8))
          go_roundw
          case rel => exact ⟨q + 1, c6, A6, by omega, by go_num, rfl, by rw [EK.out]; exact O6.out, HB6.out⟩
          case measure => simp [intOf]; omega
        · obtain rfl : q = p := by omega
          go_wp2_with fail
          go_ret2
          exact ⟨O, q, co, by rw [HQ.out.1]; rfl, by rw [HQ.out.2, HP.out, HPP.out]; exact OB.out.mono HB2.out.size, Below.then_ HB2.out HB.out⟩
theorem rpack_any (e f : Int) (A : Option Addr) (n c : Nat) (L : List Tx) (w : World) (hn : n ≤ 1000) (h : Rs w A n L) (hf : -9223372036854775808 ≤ f ∧ f ≤ 9223372036854775807) :
    Calls Try.prog 10 #[.int .i64 e, .int .i64 f, .slice A n c] w (PackPost 5 e f L w) := by
  by_cases hr : e < 1 ∨ 1099511627776 < e ∨ f < 0 ∨ 256 - (parts L : Int) < f
  · exact rpack_range e f A n c L w hn h hf hr
  · exact rpack_in e f A n c L w hn h hr
end Go.Proofs.Ytmdhckcoinhfpaa

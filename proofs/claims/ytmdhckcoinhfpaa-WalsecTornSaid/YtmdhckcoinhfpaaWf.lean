/- The walks of Pack and the reference's Pack. -/
import Derived.Test.YtmdhckcoinhfpaaWc
import Derived.Test.YtmdhckcoinhfpaaWe
import Derived.Outline
namespace Go.Proofs.Ytmdhckcoinhfpaa
open Go.RowKit

/-- The first k sectors of a log. -/
def packK (e f : Int) (P : List (List Tx)) (k : Nat) : List (List UInt8) := (List.range k).map fun (i : Nat) => layB (secN e (f + (i : Int))) (P.getD i [])
theorem packK_succ (e f : Int) (P : List (List Tx)) (k : Nat) : packK e f P (k + 1) = packK e f P k ++ [layB (secN e (f + (k : Int))) (P.getD k [])] := by
  simp [packK, List.range_succ]
theorem packK_length (e f : Int) (P : List (List Tx)) (k : Nat) : (packK e f P k).length = k := by simp [packK]
open Classical in
noncomputable def packE (e f : Int) (L : List Tx) : Int := if e < 1 ∨ 1099511627776 < e ∨ f < 0 ∨ 256 - (parts L : Int) < f then 9 else if ∃ s ∈ L, 238 < s.length then 5 else 0
noncomputable def packL (e f : Int) (L : List Tx) : List (List UInt8) := if packE e f L = 0 then packK e f (pieces L) (parts L) else []
def PackPost (eB : TypeId) (e f : Int) (L : List Tx) (w : World) (en : Ending) (w' : World) : Prop :=
  ∃ A n c, en = .returned (.tuple #[.slice A n c, .int .i64 (packE e f L)]) ∧ Obb 34 eB w' w.heap.size A c n (packL e f L) ∧ Below w.heap.size w w'
theorem packE_range {e f : Int} {L : List Tx} (h : e < 1 ∨ 1099511627776 < e ∨ f < 0 ∨ 256 - (parts L : Int) < f) : packE e f L = 9 ∧ packL e f L = [] := by
  have : packE e f L = 9 := by unfold packE; rw [if_pos h]
  exact ⟨this, by unfold packL; rw [this]; rfl⟩
theorem packE_big {e f : Int} {L : List Tx} (h : ¬ (e < 1 ∨ 1099511627776 < e ∨ f < 0 ∨ 256 - (parts L : Int) < f)) (h2 : ∃ s ∈ L, 238 < s.length) : packE e f L = 5 ∧ packL e f L = [] := by
  have : packE e f L = 5 := by unfold packE; rw [if_neg h, if_pos h2]
  exact ⟨this, by unfold packL; rw [this]; rfl⟩
theorem packE_ok {e f : Int} {L : List Tx} (h : ¬ (e < 1 ∨ 1099511627776 < e ∨ f < 0 ∨ 256 - (parts L : Int) < f)) (h2 : ¬ ∃ s ∈ L, 238 < s.length) : packE e f L = 0 ∧ packL e f L = packK e f (pieces L) (parts L) := by
  have : packE e f L = 0 := by unfold packE; rw [if_neg h, if_neg h2]
  exact ⟨this, by unfold packL; rw [this]; rfl⟩
/-- Nothing is packed, with error x. -/
theorem pack_no {eB : TypeId} {e f : Int} {L : List Tx} {x : Int} {w w' : World} (h : packE e f L = x ∧ packL e f L = []) (hb : Below w.heap.size w w') : PackPost eB e f L w (.returned (.tuple #[.slice none 0 0, .int .i64 x])) w' := by
  refine ⟨none, 0, 0, by rw [h.1], by rw [h.2]; exact Obb.nil _ _, hb⟩

set_option maxHeartbeats 4000000 in
theorem pack_range (e f : Int) (A : Option Addr) (n c : Nat) (L : List Tx) (w : World) (hn : n ≤ 1000) (hnc : n ≤ c) (h : Rs w A n L) (hf : -9223372036854775808 ≤ f ∧ f ≤ 9223372036854775807) (hr : e < 1 ∨ 1099511627776 < e ∨ f < 0 ∨ 256 - (parts L : Int) < f) :
    Calls Try.prog 9 #[.int .i64 e, .int .i64 f, .slice A n c] w (PackPost 54 e f L w) := by
  have HE := hide (packE_range hr)
  have PA := hide (parts_any A n c L w (by omega) hnc h)
  have hp := parts_le L
  have hl := h.len
  obtain ⟨p, hp2⟩ : ∃ p, parts L = p := ⟨_, rfl⟩
  rw [hp2] at PA hp hr
  have hpb : p ≤ 1000 := by omega
  have MA := hide (may_any e)
  clear h hp2 hp hl
  by_cases h1 : 1 ≤ e ∧ e ≤ 1099511627776
  · rw [decide_eq_true h1.1, decide_eq_true h1.2] at MA
    by_cases h2 : f < 0
    · have d2 : decide (f < 0) = true := decide_eq_true h2
      clear hr h1
      go_enter Try.func9, Try.ntmps9
      go_wp2_with (go_at_call 20; refine (MA.out _).mono ?_; rintro r w1 ⟨rfl, rfl⟩)
      go_ret2
      exact pack_no HE.out (Below.refl _ _)
    · have d2 : decide (f < 0) = false := decide_eq_false h2
      have d3 : decide (256 - (p : Int) < f) = true := by simp; omega
      clear hr h1
      go_enter Try.func9, Try.ntmps9
      go_wp2_with (first
        | (go_at_call 20; refine (MA.out _).mono ?_; rintro r w1 ⟨rfl, rfl⟩)
        | (go_at_call 12; refine PA.out.mono ?_; rintro r w1 ⟨rfl, rfl⟩))
      go_ret2
      exact pack_no HE.out (Below.refl _ _)
  · have hm : (decide (1 ≤ e) && decide (e ≤ 1099511627776)) = false := by
      rw [Bool.and_eq_false_iff, decide_eq_false_iff_not, decide_eq_false_iff_not]; omega
    rw [hm] at MA
    clear hm hr h1
    go_enter Try.func9, Try.ntmps9
    go_wp2_with (go_at_call 20; refine (MA.out _).mono ?_; rintro r w1 ⟨rfl, rfl⟩)
    go_ret2
    exact pack_no HE.out (Below.refl _ _)

theorem take_lt {α : Type} {l : List α} {k : Nat} {a : α} {r : List α} (h : l.drop k = a :: r) : k < l.length := by
  rcases Nat.lt_or_ge k l.length with h1 | h1
  · exact h1
  · rw [List.drop_of_length_le h1] at h; cases h
theorem getD_drop {α : Type} {l : List α} {k : Nat} {a : α} {r : List α} (d : α) (h : l.drop k = a :: r) : l.getD k d = a ∧ l.drop (k + 1) = r := by
  have h1 := take_lt h
  rw [List.drop_eq_getElem_cons h1] at h
  injection h with e1 e2
  exact ⟨by rw [← e1]; simp [List.getD, h1], e2⟩
set_option maxRecDepth 4000 in
set_option maxHeartbeats 16000000 in
theorem pack_in (e f : Int) (A : Option Addr) (n c : Nat) (L : List Tx) (w : World) (hn : n ≤ 1000) (hnc : n ≤ c) (h : Rs w A n L) (hr : ¬ (e < 1 ∨ 1099511627776 < e ∨ f < 0 ∨ 256 - (parts L : Int) < f)) :
    Calls Try.prog 9 #[.int .i64 e, .int .i64 f, .slice A n c] w (PackPost 54 e f L w) := by
  have HR := hide hr
  have PA := hide (parts_any A n c L w (by omega) hnc h)
  have H := hide h
  have HL := hide h.len
  obtain ⟨p, hp2⟩ : ∃ p, parts L = p := ⟨_, rfl⟩
  have HPP := hide hp2
  have HPL := hide (show p ≤ 1000 by rw [← hp2]; have := parts_le L; have := h.len; omega)
  rw [hp2] at PA hr
  have MA := hide (may_any e)
  rw [decide_eq_true (show 1 ≤ e by omega), decide_eq_true (show e ≤ 1099511627776 by omega)] at MA
  have d2 : decide (f < 0) = false := decide_eq_false (by omega)
  have d3 : decide (256 - (p : Int) < f) = false := by simp; omega
  have HE1 := hide (show 1 ≤ e ∧ e ≤ 1099511627776 ∧ 0 ≤ f ∧ f + (p : Int) ≤ 256 by omega)
  have hpb : (p : Int) ≤ 1000 := by have := HPL.out; omega
  clear h hp2 hr
  go_enter Try.func9, Try.ntmps9
  go_wp2_with (first
    | (go_at_call 20; refine (MA.out _).mono ?_; rintro r w1 ⟨rfl, rfl⟩)
    | (go_at_call 12; refine PA.out.mono ?_; rintro r w1 ⟨rfl, rfl⟩))
  go_loop [9, 28] (fun _ i => ∃ k : Nat, k ≤ n ∧ i = .int .i64 k ∧ ∀ j, j < k → (nthT L j).length ≤ 238) (fun _ i => n - (intOf i).toNat)
  case atStart => exact ⟨0, Nat.zero_le _, rfl, fun j hj => absurd hj (by omega)⟩
  case round =>
    obtain ⟨k, hk, rfl, hall⟩ := hrel
    have HA := hide hall
    clear hall
    by_cases hlt : k < n
    · obtain ⟨b, o, s, rfl, hb, hcell, hse, hsz⟩ := H.out.cell_ hlt
      by_cases h3 : s.size ≤ 238
      · have d3 : decide (238 < (s.size : Int)) = false := by simp; omega
        have HA2 := hide (show ∀ j, j < k + 1 → (nthT L j).length ≤ 238 from fun j hj => by
          rcases Nat.lt_or_ge j k with h1 | h1
          · exact HA.out j h1
          · obtain rfl : j = k := by omega
            omega)
        clear hse hsz h3
        go_wp2_with fail
        go_round
        case rel => exact ⟨k + 1, by omega, by go_num, HA2.out⟩
        case measure => simp [intOf]; omega
      · have d3 : decide (238 < (s.size : Int)) = true := by simp; omega
        have HQ := hide (packE_big HR.out ⟨nthT L k, nthT_mem (by rw [HL.out]; exact hlt), by omega⟩)
        clear hse hsz h3
        go_wp2_with fail
        go_ret2
        exact pack_no HQ.out (Below.refl _ _)
    · obtain rfl : k = n := by omega
      have HS := hide (show ∀ s ∈ L, s.length ≤ 238 from fun s hs => by
        obtain ⟨j, hj, rfl⟩ := List.getElem_of_mem hs
        have := HA.out j (by rw [← HL.out]; exact hj)
        simpa [nthT, List.getD, hj] using this)
      have HQ := hide (packE_ok HR.out (fun ⟨s, h1, h2⟩ => by have := HS.out s h1; omega))
      obtain ⟨P, hP⟩ : ∃ P, pieces L = P := ⟨_, rfl⟩
      have HP := hide hP
      have HPK := hide (show P.length = p by rw [← hP]; exact HPP.out)
      clear hP
      go_wp2_with fail
      go_loopw [2, 10, 11] (fun l out _ wr => ∃ (k m d c : Nat) (B O : Option Addr) (M : List Tx), l = .slice B m d ∧ m ≤ d ∧ m ≤ 1000 ∧ Rs w B m M ∧ out = .slice O k c ∧ k ≤ p ∧ Obb 34 54 wr w.heap.size O c k (packK e f P k) ∧ P.drop k = pieces M ∧ (∀ s ∈ M, s ∈ L) ∧ Below w.heap.size w wr) (fun l _ _ _ => (match l with | .slice _ m _ => m | _ => 0))
      case atStart => exact ⟨0, k, c, 0, A, none, L, rfl, hnc, hn, H.out, rfl, Nat.zero_le _, Obb.nil _ _, by rw [List.drop_zero, HP.out], fun s hs => hs, Below.refl _ _⟩
      case round =>
        obtain ⟨q, m, d, co, B, O, M, rfl, hmd, hm1, hrs, rfl, hqp0, hobb, hdr, hsub, hbr⟩ := hrel
        have OB := hide hobb
        have RM := hide hrs
        have HM := hide hrs.len
        have HB := hide hbr
        have HD := hide hdr
        have HSub := hide hsub
        clear hobb hrs hbr hdr hsub
        by_cases hlt : 0 < m
        · have hne : M ≠ [] := fun e => by have := HM.out; rw [e] at this; simp at this; omega
          have hdc := HD.out
          rw [pieces_cons hne] at hdc
          have hq := take_lt hdc
          have hgd := getD_drop [] hdc
          have gp := grp_pos hne
          have gl := grp_le M 0
          have hct := grp_fits M 0 (by omega)
          rw [HM.out] at gl
          have GC := hide (fun w h => group_any B m d M w (by omega) h)
          obtain ⟨g, hg⟩ : ∃ g, grp 0 M = g := ⟨_, rfl⟩
          rw [hg] at GC gp gl hgd hct
          have HGD := hide hgd
          have RM1 := hide (RM.out.hi_ g d gl hmd)
          have RM2 := hide (RM.out.lo_ g d gl hmd)
          have s1 := run_hi slice22 size9 B m d g g rfl (by omega)
          have s2 := run_lo slice22 size9 B m d g g rfl gl
          obtain ⟨B1, hB1⟩ : ∃ Q, cutA B d 0 = Q := ⟨_, rfl⟩
          obtain ⟨B2, hB2⟩ : ∃ Q, cutA B d g = Q := ⟨_, rfl⟩
          rw [hB1] at RM1 s1
          rw [hB2] at RM2 s2
          have hqp : q < p := by rw [← HPK.out]; exact hq
          have hok : secOk e (f + (q : Int)) := by have := HE1.out; exact ⟨by omega, by omega, by omega, by omega⟩
          have LA := hide (fun w h => lay_any e (f + (q : Int)) hok B1 g d (M.take g) w (by omega) h (fun s hs => HS.out s (HSub.out s (List.mem_of_mem_take hs))) (by omega))
          have hq63 := hide (show q + 1 ≤ maxLen by have := HPL.out; unfold maxLen; omega)
          have hqb := hide (show (q + 1) * 24 ≤ 140737488355328 by have := HPL.out; omega)
          have HLN := hide (layB_length (secN e (f + (q : Int))) (M.take g) (by rw [body_length _ (fun s hs => HS.out s (HSub.out s (List.mem_of_mem_take hs)))]; omega))
          have hf0 : 0 ≤ f := HE1.out.2.2.1
          have hf1 : f ≤ 256 := by have := HE1.out; omega
          have hq1 : q ≤ 1000 := by have := HPL.out; omega
          clear hne hdc hq hgd hct hg hB1 hB2 hok
          go_wp2_with (first
            | (go_at_call 21; refine (GC.out _ (RM.out.below HB.out)).mono ?_; rintro r w1 ⟨rfl, rfl⟩)
            | (go_at_call 22; refine (LA.out _ (RM1.out.below HB.out)).mono ?_; rintro r w3 ⟨gb, rfl, hgb, hv3, hb3⟩
               have V3 := hide hv3
               have HB3 := hide hb3
               have hgb2 := hide hgb
               clear hv3 hb3)
            | ((with_reducible show wpList _ _ _ (⟨some 52, _, _, _, _, _⟩ :: _) _ _)
               obtain ⟨hl, vs, ho, hi⟩ := OB.out.below (Below.al HB3.out (.cells #[.slice (some ⟨gb, 0, none⟩) 256 256] 34))
               have N6 : Rd (w3.alloc (.cells #[.slice (some ⟨gb, 0, none⟩) 256 256] 34)) (some ⟨w3.heap.size, 0, none⟩) 1 1 [.slice (some ⟨gb, 0, none⟩) 256 256] := (Vk.new w3 34 [.slice (some ⟨gb, 0, none⟩) 256 256]).rd 1 1 rfl
               have N7 : w.heap.size ≤ (w3.alloc (.cells #[.slice (some ⟨gb, 0, none⟩) 256 256] 34)).heap.size := by simp; have := HB3.out.size; have := HB.out.size; omega
               have N8 : (w3.alloc (.cells #[.slice (some ⟨gb, 0, none⟩) 256 256] 34)).ownsRow w.heap.size 54 1 (.slice (some ⟨gb, 0, none⟩) 256 256) 256 (by8 (layB (secN e (f + (q : Int))) (M.take g))) :=
                 (V3.out.alloc _).own (Nat.le_trans HB.out.size hgb2.out) (by
                   rw [by8_length, HLN.out]) (by unfold maxLen; omega)
               refine wpList_app rfl (.tmp 41) (.tmp 51) 25 rfl w.heap.size 34 (.slice none 0 0) 1 24 Try.underlying25 info34 rfl (by omega) _ _ q vs rfl ho _ 1 _ [.slice (some ⟨gb, 0, none⟩) 256 256] rfl N6 (by simp [Value.oneCell']) hq63.out hqb.out N7 ?_
               intro A6 c6 w6 hown hgr hz
               clear hz
               have O6 := hide (Obb.push (by decide) ⟨hl, vs, ho, hi⟩ hi ho N8 hown hgr)
               have HB6 := hide ((Below.al (Below.then_ HB.out HB3.out) _).grown hgr N7 (fun j hj => (own_lt ho j hj).1))
               clear hown hgr ho hi hl N6 N7 N8))
          go_roundw
          case rel => exact ⟨q + 1, m - g, d - g, c6, B2, A6, M.drop g, rfl, by omega, by omega, RM2.out, rfl, by omega, by rw [packK_succ, HGD.out.1]; exact O6.out, HGD.out.2, fun s hs => HSub.out s (List.mem_of_mem_drop hs), HB6.out⟩
          case measure => simp; omega
        · obtain rfl : m = 0 := by omega
          have hM : M = [] := List.eq_nil_of_length_eq_zero HM.out
          have hqp : q = p := by
            have h1 := HD.out
            rw [hM, pieces_nil] at h1
            have h4 := congrArg List.length h1
            rw [List.length_drop, List.length_nil, HPK.out] at h4
            omega
          subst hqp
          go_wp2_with fail
          go_ret2
          exact ⟨O, q, co, by rw [HQ.out.1]; rfl, by rw [HQ.out.2, HP.out, HPP.out]; exact OB.out, HB.out⟩
theorem pack_any (e f : Int) (A : Option Addr) (n c : Nat) (L : List Tx) (w : World) (hn : n ≤ 1000) (hnc : n ≤ c) (h : Rs w A n L) (hf : -9223372036854775808 ≤ f ∧ f ≤ 9223372036854775807) :
    Calls Try.prog 9 #[.int .i64 e, .int .i64 f, .slice A n c] w (PackPost 54 e f L w) := by
  by_cases hr : e < 1 ∨ 1099511627776 < e ∨ f < 0 ∨ 256 - (parts L : Int) < f
  · exact pack_range e f A n c L w hn hnc h hf hr
  · exact pack_in e f A n c L w hn hnc h hr
end Go.Proofs.Ytmdhckcoinhfpaa

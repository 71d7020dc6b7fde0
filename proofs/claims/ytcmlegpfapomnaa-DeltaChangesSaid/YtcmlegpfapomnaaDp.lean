/- The walk of the laws' own check 'awake'. -/
import Derived.Test.YtcmlegpfapomnaaPa
import Derived.Test.YtcmlegpfapomnaaDk2
namespace Go.Proofs.Ytcmlegpfapomnaa
open Go.RowKit Go.Instr
open Go.Op (bytesLess)

def LA : List Pr := [⟨[97], [49]⟩, ⟨[98], [50]⟩]
def LB : List Pr := [⟨[98], [51]⟩, ⟨[99], [52]⟩]
def DD : List Ch := [⟨[97], [49], [], true, false⟩, ⟨[98], [50], [51], true, true⟩, ⟨[99], [], [52], false, true⟩]
theorem vA : Vw LA := vw_ris (by decide +kernel)
theorem vB : Vw LB := vw_ris (by decide +kernel)
theorem aw_keys : kys (LA.map Pr.k) (LB.map Pr.k) = [[97], [98], [99]] := by
  show kys [[97], [98]] [[98], [99]] = _
  rw [kys_lt _ _ _ _ (by decide +kernel), kys_eq _ _ _ _ (by decide +kernel) (by decide +kernel), kys_nb, kys_nn]
theorem aw_btw : btw LA LB = DD := by
  rw [btw_rbtw, rbtw, if_pos (by decide +kernel), aw_keys]
  decide +kernel
theorem aw_ap : apl LA DD = (LB, 0) := by rw [← aw_btw]; exact apl_btw vA vB
theorem aw_no : apl LB DD = ([], 11) := by
  rw [apl_rapl, rapl, if_neg (by decide +kernel), if_neg (by decide +kernel), if_pos (by decide +kernel)]
theorem aw_thn : thn DD (DD.map turn1) = ([], 0) := by
  rw [← aw_btw, turn_btw vA vB, thn_btw vA vB vA, btw_self vA]
theorem aw_cls : cls DD (DD.take 1) = [[97]] := by decide +kernel
theorem aw_chk : chk DD = 0 := by decide +kernel
theorem eq_ch (x y : Ch) (w : World) : (binOp .eql 55 (chV x) (chV y)).run Try.prog w = .ok (.bool (decide (x = y))) w := by
  have main : ∀ t, Try.prog.underlying t = some (.struct (Try.prog.fieldsOf t)) → Try.prog.stoodInHeld t = false → Try.prog.fieldsOf t = Try.prog.fieldsOf 55 → (binOp .eql t (chV x) (chV y)).run Try.prog w = .ok (.bool (decide (x = y))) w := by
    intro t hS hp hf
    unfold chV
    rw [run_eql_struct, show (10000 : Nat) = 9999 + 1 from rfl, run_equalIn_agg w 9999 t _ _ hS hp, hf]
    simp only [Program.fieldsOf, Try.underlying55]
    obtain ⟨x1, x2, x3, x4, x5⟩ := x
    obtain ⟨y1, y2, y3, y4, y5⟩ := y
    go_simp
    by_cases h1 : x1 = y1 <;> by_cases h2 : x2 = y2 <;> by_cases h3 : x3 = y3 <;> by_cases h4 : x4 = y4 <;> by_cases h5 : x5 = y5 <;> simp [h1, h2, h3, h4, h5]
  exact main 55 (by kernel_rfl) (by kernel_rfl) rfl
theorem cut_1 (b o c : Nat) (hc : 3 ≤ c) (w : World) : (Instr.slice 25 (.slice (some ⟨b, o, none⟩) 3 c) none (some (.int .i64 1)) none).run Try.prog w = .ok (.slice (some ⟨b, o, none⟩) 1 c) w := by
  have hs : ∀ w, (sizeOf 55).run Try.prog w = .ok 5 w := fun w => by kernel_rfl
  have h1'' : (1 : Int) ≤ (c : Int) := by omega
  have h0 : ¬ c = 0 := by omega
  simp [Instr.slice, run_underlying Try.underlying25, Instr.sliceBounds, run_sliceBound, h1'', hs, h0, add_plain]
theorem DD_one {w : World} {b o : Nat} (h : Rch w (some ⟨b, o, none⟩) 3 DD) : Rch w (some ⟨b, o, none⟩) 1 (DD.take 1) := by
  have := Rd.upto h 1 3 (by omega) (by omega)
  have e : chs (DD.take 1) = (chs DD).take (1 * 5) := rfl
  show Rd w _ 1 5 (chs (DD.take 1))
  rw [e]
  simpa [add_plain] using this
set_option maxRecDepth 20000 in
set_option maxHeartbeats 16000000 in
theorem awake_any (w : World) : Calls Try.prog 9 #[] w fun e w' => e = .returned (.bool true) ∧ Below w.heap.size w w' := by
  obtain ⟨W0, hW0⟩ : ∃ W0, W0 = ((w.alloc (.cells #[.string ⟨#[97]⟩, .string ⟨#[49]⟩, .string ⟨#[98]⟩, .string ⟨#[50]⟩] 53)).alloc (.cells #[.string ⟨#[98]⟩, .string ⟨#[51]⟩, .string ⟨#[99]⟩, .string ⟨#[52]⟩] 53)) := ⟨_, rfl⟩
  have RA := hide (show Rp W0 (some ⟨w.heap.size, 0, none⟩) 2 LA by rw [hW0]; exact ((Vk.new w 53 [.string ⟨#[97]⟩, .string ⟨#[49]⟩, .string ⟨#[98]⟩, .string ⟨#[50]⟩]).alloc _).rd 2 2 rfl)
  have RB := hide (show Rp W0 (some ⟨w.heap.size + 1, 0, none⟩) 2 LB by rw [hW0]; exact (Vk.two_ w 53 53 [.string ⟨#[97]⟩, .string ⟨#[49]⟩, .string ⟨#[98]⟩, .string ⟨#[50]⟩] [.string ⟨#[98]⟩, .string ⟨#[51]⟩, .string ⟨#[99]⟩, .string ⟨#[52]⟩]).rd 2 2 rfl)
  have HB0 := hide (show Below w.heap.size w W0 by rw [hW0]; exact Below.al (Below.al (Below.refl _ _) _) _)
  have e0 := fun w => eq_ch ⟨[97], [49], [], true, false⟩ ⟨[97], [49], [], true, false⟩ w
  have e1 := fun w => eq_ch ⟨[98], [50], [51], true, true⟩ ⟨[98], [50], [51], true, true⟩ w
  rw [decide_eq_true rfl] at e0 e1
  unfold chV at e0 e1
  dsimp only at e0 e1
  have mn : (min 1 3 : Int) = 1 := by decide
  go_enter Try.func9, Try.ntmps9
  go_wp2_with (first
    | (go_at_call 10
       go_loud (
       rw [← hW0]
       refine (btw_any _ 2 2 LA _ 2 2 LB _ (by omega) RA.out (by omega) RB.out (by omega)).mono ?_
       rintro r w1 ⟨v, rfl, ⟨A, n, c, rfl, hnc, hr⟩, hb1⟩
       rw [aw_btw] at hr
       obtain rfl : n = 3 := hr.len.symm
       obtain ⟨b, o, rfl, _, _⟩ := hr.at_ (k := 0) (by omega)
       have D1 := hide hr
       have NC := hide hnc
       have cut := fun w => cut_1 b o c hnc w
       have A1 := hide (RA.out.below hb1)
       have B1 := hide (RB.out.below hb1)
       have HB1 := hide (Below.then_ HB0.out hb1)
       clear hb1 hr hnc hW0))
    | (go_at_call_of 12 (Value.slice (some ⟨w.heap.size, 0, none⟩) 2 2)
       go_loud (
       refine (apl_any _ 2 2 LA _ 3 c DD _ (by omega) A1.out (by omega) D1.out NC.out).mono ?_
       rw [aw_ap]
       rintro r w2 ⟨v, rfl, ⟨X2, n2, c2, rfl, hnc2, hr2⟩, hb2⟩
       have L2 := hide hr2
       obtain rfl : n2 = 2 := hr2.len.symm
       have D2 := hide (D1.out.below hb2)
       have B2 := hide (B1.out.below hb2)
       have HB2 := hide (Below.then_ HB1.out hb2)
       clear hb2 hr2 hnc2))
    | (go_at_call 12
       go_loud (
       refine (apl_any _ 2 2 LB _ 3 c DD _ (by omega) B2.out (by omega) D2.out NC.out).mono ?_
       rw [aw_no]
       rintro r w3 ⟨v, rfl, ⟨X3, n3, c3, rfl, hnc3, hr3⟩, hb3⟩
       have D3 := hide (D2.out.below hb3)
       have B3 := hide (B2.out.below hb3)
       have L3 := hide (L2.out.below hb3)
       have HB3 := hide (Below.then_ HB2.out hb3)
       clear hb3 hr3 hnc3))
    | (go_at_call 24
       go_loud (
       refine (turn_any _ 3 c DD _ (by omega) D3.out).mono ?_
       rintro r w4 ⟨v, rfl, ⟨X4, n4, c4, rfl, hnc4, hr4⟩, hb4⟩
       obtain rfl : n4 = 3 := hr4.len.symm
       have T4 := hide hr4
       have NC4 := hide hnc4
       have D4 := hide (D3.out.below hb4)
       have B4 := hide (B3.out.below hb4)
       have L4 := hide (L3.out.below hb4)
       have HB4 := hide (Below.then_ HB3.out hb4)
       clear hb4 hr4 hnc4))
    | (go_at_call 11
       go_loud (
       refine (thn_any _ 3 c DD _ 3 c4 (DD.map turn1) _ (by omega) D4.out NC.out T4.out NC4.out).mono ?_
       rw [aw_thn]
       rintro r w5 ⟨v, rfl, ⟨X5, n5, c5, rfl, hnc5, hr5⟩, hb5⟩
       obtain rfl : n5 = 0 := hr5.len.symm
       have T5 := hide hr5
       have D5 := hide (D4.out.below hb5)
       have B5 := hide (B4.out.below hb5)
       have L5 := hide (L4.out.below hb5)
       have HB5 := hide (Below.then_ HB4.out hb5)
       clear hb5 hr5 hnc5))
    | (go_at_call 16
       go_loud (
       refine (clash_any _ 3 c DD _ 1 c (DD.take 1) _ (by omega) (by omega) D5.out (DD_one D5.out)).mono ?_
       rw [aw_cls]
       rintro r w6 ⟨v, rfl, ⟨X6, n6, c6, rfl, hnc6, hr6⟩, hb6⟩
       obtain rfl : n6 = 1 := hr6.len.symm
       obtain ⟨b6, o6, rfl, hl6, h60⟩ := hr6.at_ (k := 0) (by omega)
       have K6 := hide hr6
       have D6 := hide (D5.out.below hb6)
       have B6 := hide (B5.out.below hb6)
       have L6 := hide (L5.out.below hb6)
       have T6 := hide (T5.out.below hb6)
       have HB6 := hide (Below.then_ HB5.out hb6)
       obtain ⟨b', o', hbo, _, x0, x1, x2, x3, x4⟩ := D6.out.at_ (k := 0) (by omega)
       cases hbo
       obtain ⟨b', o', hbo, _, y0, y1, y2, y3, y4⟩ := D6.out.at_ (k := 1) (by omega)
       cases hbo
       rw [Nat.one_mul] at y0 y1 y2 y3 y4
       rw [Nat.zero_mul, Nat.add_zero] at x0 x1 x2 x3 x4
       change _ = some (Value.string ⟨#[97]⟩) at x0
       change _ = some (Value.string ⟨#[49]⟩) at x1
       change _ = some (Value.string ⟨#[]⟩) at x2
       change _ = some (Value.bool true) at x3
       change _ = some (Value.bool false) at x4
       change _ = some (Value.string ⟨#[98]⟩) at y0
       change _ = some (Value.string ⟨#[50]⟩) at y1
       change _ = some (Value.string ⟨#[51]⟩) at y2
       change _ = some (Value.bool true) at y3
       change _ = some (Value.bool true) at y4
       clear hb6 hr6 hnc6 hl6 h60))
    | (go_at_call 15
       go_loud (
       refine (samep_any _ 2 c2 LB _ 2 2 LB _ (by omega) L6.out B6.out).mono ?_
       rw [decide_eq_true rfl]
       rintro r w7 ⟨rfl, hb7⟩
       have D7 := hide (D6.out.below hb7)
       have K7 := hide (K6.out.below hb7)
       have T7 := hide (T6.out.below hb7)
       have HB7 := hide (Below.then_ HB6.out hb7)
       obtain ⟨b', o', hbo, _, z0⟩ := K7.out.at_ (k := 0) (by omega)
       cases hbo
       rw [Nat.add_zero] at z0
       change _ = some (Value.string ⟨#[97]⟩) at z0
       clear hb7))
    | (go_at_call 13
       go_loud (
       refine (check_any _ 3 c DD _ (by omega) D7.out).mono ?_
       rw [aw_chk]
       rintro r w8 ⟨rfl, hb8⟩
       have D8 := hide (D7.out.below hb8)
       have T8 := hide (T7.out.below hb8)
       have HB8 := hide (Below.then_ HB7.out hb8)
       clear hb8))
    | (go_at_call 14
       refine (same_any _ 3 c DD _ 3 c DD _ (by omega) D8.out D8.out).mono ?_
       rw [decide_eq_true rfl]
       rintro r w9 ⟨rfl, hb9⟩
       have D9 := hide (D8.out.below hb9)
       have T9 := hide (T8.out.below hb9)
       have HB9 := hide (Below.then_ HB8.out hb9)
       clear hb9)
    | (go_at_call 14
       go_loud (
       refine (same_any _ 3 c DD _ 0 c5 [] _ (by omega) D9.out T9.out).mono ?_
       rw [decide_eq_false (by decide)]
       rintro r w10 ⟨rfl, hb10⟩
       have HB10 := hide (Below.then_ HB9.out hb10)
       clear hb10)))
  go_ret
  exact ⟨rfl, HB10.out⟩
end Go.Proofs.Ytcmlegpfapomnaa

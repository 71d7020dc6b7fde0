/- The walk of Read. -/
import Derived.Test.YtmdhckcoinhfpaaWe
namespace Go.Proofs.Ytmdhckcoinhfpaa
open Go.RowKit

theorem length_le_costs' : ∀ (l : List Tx), l.length ≤ costs l
  | [] => Nat.le_refl _
  | s :: r => by
    have := length_le_costs' r
    have := cost_pos s
    rw [costs_cons, List.length_cons]
    omega
theorem readS_len (b : List UInt8) (e a : Int) : (readS b e a).1.length ≤ 239 := by
  by_cases h : secOk e a ∧ ∃ l, isSec (secN e a) b l
  · obtain ⟨l, hl⟩ := h.2
    rw [readS_yes h.1 hl]
    have := length_le_costs' l
    have := hl.2.2.1
    show l.length ≤ 239
    omega
  · rw [readS_no (fun h1 l hl => h ⟨h1, l, hl⟩)]
    exact Nat.zero_le _
def ReadPost (b : List UInt8) (e a : Int) (w : World) (en : Ending) (w' : World) : Prop :=
  ∃ A n c, en = .returned (.tuple #[.slice A n c, .bool (readS b e a).2]) ∧ Rs w' A n (readS b e a).1 ∧ n ≤ 239 ∧ w'.ownsRow w.heap.size 9 1 (.slice A n c) n (st8 (readS b e a).1) ∧ Below w.heap.size w w'
theorem read_no {b : List UInt8} {e a : Int} {w w' : World} (h : secOk e a → ∀ l, ¬ isSec (secN e a) b l) (hb : Below w.heap.size w w') : ReadPost b e a w (.returned (.tuple #[.slice none 0 0, .bool false])) w' := by
  refine ⟨none, 0, 0, by rw [readS_no h], by rw [readS_no h]; exact Rs.none_ _ _, by omega, by rw [readS_no h]; exact World.ownsRow_nil _ _ _ _, hb⟩
set_option maxHeartbeats 4000000 in
theorem read_out (e a : Int) (A : Option Addr) (n c : Nat) (b : List UInt8) (w : World) (h : Rb w A n b) (hr : ¬ (n = 256 ∧ secOk e a)) : Calls Try.prog 14 #[.slice A n c, .int .i64 e, .int .i64 a] w (ReadPost b e a w) := by
  have hl := h.len
  have HN := hide (show secOk e a → ∀ l, ¬ isSec (secN e a) b l from fun hok l hs => hr ⟨by rw [← hl]; exact hs.len.2.1, hok⟩)
  have MA := hide (may_any e)
  unfold secOk at hr
  clear h hl
  by_cases h0 : n = 256
  · subst h0
    by_cases h1 : 1 ≤ e ∧ e ≤ 1099511627776
    · rw [decide_eq_true h1.1, decide_eq_true h1.2] at MA
      by_cases h2 : a < 0
      · have d2 : decide (a < 0) = true := decide_eq_true h2
        clear hr h1 h2
        go_enter Try.func14, Try.ntmps14
        go_wp2_with (go_at_call 20; refine (MA.out _).mono ?_; rintro r w1 ⟨rfl, rfl⟩)
        go_ret2
        exact read_no HN.out (Below.refl _ _)
      · have d2 : decide (a < 0) = false := decide_eq_false h2
        have d3 : decide (256 ≤ a) = true := by simp; omega
        clear hr h1 h2
        go_enter Try.func14, Try.ntmps14
        go_wp2_with (go_at_call 20; refine (MA.out _).mono ?_; rintro r w1 ⟨rfl, rfl⟩)
        go_ret2
        exact read_no HN.out (Below.refl _ _)
    · have hm : (decide (1 ≤ e) && decide (e ≤ 1099511627776)) = false := by
        rw [Bool.and_eq_false_iff, decide_eq_false_iff_not, decide_eq_false_iff_not]; omega
      rw [hm] at MA
      clear hm hr h1
      go_enter Try.func14, Try.ntmps14
      go_wp2_with (go_at_call 20; refine (MA.out _).mono ?_; rintro r w1 ⟨rfl, rfl⟩)
      go_ret2
      exact read_no HN.out (Below.refl _ _)
  · have d0 : ((n : Int) != 256) = true := by rw [bne_iff_ne]; omega
    clear hr h0
    go_enter Try.func14, Try.ntmps14
    go_wp2_with fail
    go_ret2
    exact read_no HN.out (Below.refl _ _)
theorem min239 {P : Program} (x M : Nat) (hM : min x 239 = M) (w : World) : (Builtin.min_ #[3, 3] 3 #[.int .i64 (x : Int), .int .i64 239]).run P w = .ok (.int .i64 (M : Int)) w := by
  rw [run_min_int2]
  congr 2
  subst hM
  split <;> omega
/-- What stands ahead of what is left, and a text that does not fit. -/
theorem parse_no {got : List Tx} {rest p : List UInt8} {n : Nat} {b : List UInt8} {l : List Tx} (hp : p = body got ++ rest) (hg : ∀ s ∈ got, s.length ≤ 238) (hr : rest.length ≤ (rest.getD 0 0).toNat) (h0 : 0 < rest.length)
    (hpart : (b.drop 9).take (min (b.getD 8 0).toNat 239) = p) : ¬ isSec n b l := by
  intro h
  obtain ⟨c, hlc, hc⟩ := body_prefix got l rest hg h.2.1 (by rw [← hp, ← hpart, h.part])
  match c, hlc, hc with
  | [], _, hc => rw [hc] at h0; simp [body] at h0
  | s :: c', hlc, hc =>
    have hs := h.2.1 s (by rw [hlc]; simp)
    rw [body_cons] at hc
    rw [hc] at hr
    simp only [List.getD_cons_zero, List.length_cons, List.length_append, UInt8.toNat_ofNat'] at hr
    omega
theorem parse_same {got l : List Tx} {p : List UInt8} {n : Nat} {b : List UInt8} (hp : p = body got) (hg : ∀ s ∈ got, s.length ≤ 238) (hpart : (b.drop 9).take (min (b.getD 8 0).toNat 239) = p) (h : isSec n b l) : l = got := by
  obtain ⟨c, h1, hc⟩ := body_prefix got l [] hg h.2.1 (by rw [List.append_nil, ← hp, ← hpart, h.part])
  have : c = [] := body_nil_of (by rw [← hc]; rfl)
  rw [h1, this, List.append_nil]
/-- One text taken off. -/
theorem parse_step (rest : List UInt8) (h : (rest.getD 0 0).toNat < rest.length) :
    rest = UInt8.ofNat ((rest.drop 1).take (rest.getD 0 0).toNat).length :: ((rest.drop 1).take (rest.getD 0 0).toNat) ++ rest.drop ((rest.getD 0 0).toNat + 1) ∧ ((rest.drop 1).take (rest.getD 0 0).toNat).length = (rest.getD 0 0).toNat := by
  match rest with
  | [] => simp at h
  | x :: r =>
    simp only [List.getD_cons_zero, List.length_cons] at h
    have hl : (r.take x.toNat).length = x.toNat := by rw [List.length_take]; omega
    refine ⟨?_, by simpa using hl⟩
    simp only [List.getD_cons_zero, List.drop_succ_cons, List.drop_zero, hl, UInt8.ofNat_toNat, List.cons_append, List.take_append_drop]
theorem Rb.cell_ {w : World} {b o n : Nat} {l : List UInt8} (h : Rb w (some ⟨b, o, none⟩) n l) {k : Nat} (hk : k < n) : w.cell? ⟨b, o + k, none⟩ = some (.int .u8 ((l.getD k 0).toNat : Int)) := by
  obtain ⟨b', o', e, _, hc⟩ := h.at_ (by omega)
  injection e with e
  injection e with e1 e2
  subst e1; subst e2
  exact hc k hk
set_option maxRecDepth 4000 in
set_option maxHeartbeats 16000000 in
theorem read_in (e a : Int) (hok : secOk e a) (A : Option Addr) (c : Nat) (b : List UInt8) (w : World) (hc : 256 ≤ c) (h : Rb w A 256 b) : Calls Try.prog 14 #[.slice A 256 c, .int .i64 e, .int .i64 a] w (ReadPost b e a w) := by
  have MA := hide (may_any e)
  obtain ⟨h1, h2, h3, h4⟩ := hok
  rw [decide_eq_true h1, decide_eq_true h2] at MA
  have d2 : decide (a < 0) = false := decide_eq_false (by omega)
  have d3 : decide (256 ≤ a) = false := by simp; omega
  have HOK := hide (show secOk e a from ⟨h1, h2, h3, h4⟩)
  have hbl := hide h.len
  have R := hide h
  obtain ⟨bA, oA, rfl, hbA, hcA⟩ := h.at_ (by omega)
  clear hcA
  obtain ⟨y, hy⟩ : ∃ y, b.getD 8 0 = y := ⟨_, rfl⟩
  have c8 : w.cell? ⟨bA, oA + 8, none⟩ = some (.int .u8 (y.toNat : Int)) := by rw [h.cell_ (k := 8) (by omega), hy]
  obtain ⟨M, hM⟩ : ∃ M, min y.toNat 239 = M := ⟨_, rfl⟩
  have hmin := min239 (P := Try.prog) y.toNat M hM
  have hM2 : M ≤ 239 := by omega
  have hm0 : (0 : Int) ≤ (M : Int) := by omega
  have s1 := run_lohi slice34 size5 (some ⟨bA, oA, none⟩) 256 c 9 (9 + M) 9 (9 + (M : Int)) rfl (by omega) (by omega) (by omega)
  rw [cutA_at bA oA c 9 (by omega), show 9 + M - 9 = M by omega] at s1
  have RP := hide (h.lohi_ 9 (9 + M) c (by omega) (by omega) hc)
  rw [cutA_at bA oA c 9 (by omega), show 9 + M - 9 = M by omega] at RP
  obtain ⟨p, hp⟩ : ∃ p, (b.drop 9).take M = p := ⟨_, rfl⟩
  have HPART := hide (show (b.drop 9).take (min (b.getD 8 0).toNat 239) = p by rw [hy, hM]; exact hp)
  rw [hp] at RP
  have hpl := hide RP.out.len
  obtain ⟨cP, hcP⟩ : ∃ cP, c - 9 = cP := ⟨_, rfl⟩
  have hcc := hide (show M ≤ cP by omega)
  rw [hcP] at s1
  have hy1 := y.toNat_lt
  clear h h1 h2 h3 h4 hM hy hp hcP
  go_enter Try.func14, Try.ntmps14
  go_wp2_with (go_at_call 20; refine (MA.out _).mono ?_; rintro r w1 ⟨rfl, rfl⟩)
  go_loopw [8, 9, 10] (fun l pt _ wr => ∃ (k m d co : Nat) (O B : Option Addr) (got : List Tx) (rest : List UInt8), l = .slice O k co ∧ k ≤ co ∧ wr.ownsRow w.heap.size 9 1 (.slice O k co) k (st8 got) ∧ pt = .slice B m d ∧ m ≤ d ∧ m ≤ 239 ∧ Rb w B m rest ∧ p = body got ++ rest ∧ (∀ s ∈ got, s.length ≤ 238) ∧ Below w.heap.size w wr) (fun _ pt _ _ => (match pt with | .slice _ m _ => m | _ => 0))
  case atStart => exact ⟨0, M, cP, 0, none, _, [], p, rfl, Nat.le_refl _, World.ownsRow_nil _ _ _ _, rfl, hcc.out, hM2, RP.out, rfl, fun s hs => by simp at hs, Below.refl _ _⟩
  case round =>
    obtain ⟨k, m, d, co, O, B, got, rest, rfl, hkc, hown, rfl, hmd, hm, hrest, hpe, hgs, hbr⟩ := hrel
    have OW := hide hown
    have RR := hide hrest
    have HP := hide hpe
    have HG := hide hgs
    have HB := hide hbr
    have hk239 : k ≤ 239 := by
      have e1 := hown.1
      rw [st8_length] at e1
      have e2 := body_length got hgs
      have e3 := length_le_costs' got
      have e4 := hpl.out
      rw [hpe, List.length_append] at e4
      omega
    have hrl := hide hrest.len
    by_cases hlt : 0 < m
    · obtain ⟨bB, oB, rfl, hbB, hcB⟩ := hrest.at_ hlt
      obtain ⟨x, hx⟩ : ∃ x, rest.getD 0 0 = x := ⟨_, rfl⟩
      have c0 : wr.cell? ⟨bB, oB, none⟩ = some (.int .u8 (x.toNat : Int)) := by
        have := (hbr.cell (p := ⟨bB, oB + 0, none⟩) hbB).trans (hcB 0 hlt)
        rw [hx] at this
        exact this
      have hx1 := x.toNat_lt
      have hkc1 := hide hkc
      by_cases hxm : m ≤ x.toNat
      · have HNO := hide (show secOk e a → ∀ l, ¬ isSec (secN e a) b l from fun _ l => parse_no hpe hgs (by rw [hx, hrl.out]; exact hxm) (by rw [hrl.out]; exact hlt) HPART.out)
        have dx : decide (m ≤ x.toNat) = true := decide_eq_true hxm
        clear hown hrest hpe hgs hbr hcB hx hkc hxm hbB
        go_wp2_with fail
        go_ret2
        exact read_no HNO.out HB.out
      · have dx : decide (m ≤ x.toNat) = false := decide_eq_false hxm
        have hxm2 : x.toNat < m := by omega
        have hst := parse_step rest (by rw [hx, hrl.out]; exact hxm2)
        rw [hx] at hst
        obtain ⟨X, hX⟩ : ∃ X, x.toNat = X := ⟨_, rfl⟩
        rw [hX] at c0 hxm2 hst dx
        have hX2 : X ≤ 238 := by omega
        have u1 := run_lohi slice34 size5 (some ⟨bB, oB, none⟩) m d 1 (X + 1) 1 ((X : Int) + 1) rfl (by omega) (by omega) (by omega)
        have u2 := run_lo slice34 size5 (some ⟨bB, oB, none⟩) m d (X + 1) ((X : Int) + 1) (by omega) (by omega)
        have R1 := hide (hrest.lohi_ 1 (X + 1) d (by omega) (by omega) hmd)
        have R2 := hide (hrest.lo_ (X + 1) d (by omega) hmd)
        obtain ⟨B1, hB1⟩ : ∃ Q, cutA (some ⟨bB, oB, none⟩) d 1 = Q := ⟨_, rfl⟩
        obtain ⟨B2, hB2⟩ : ∃ Q, cutA (some ⟨bB, oB, none⟩) d (X + 1) = Q := ⟨_, rfl⟩
        rw [hB1, show X + 1 - 1 = X by omega] at u1 R1
        rw [hB2] at u2 R2
        obtain ⟨t, ht⟩ : ∃ t, (rest.drop 1).take X = t := ⟨_, rfl⟩
        rw [ht] at hst R1
        have HST := hide hst
        have hk63 := hide (show k + 1 ≤ maxLen by unfold maxLen; omega)
        have hkby := hide (show (k + 1) * 16 ≤ 140737488355328 by omega)
        have HX := hide hX
        clear hown hrest hpe hgs hbr hcB hx hst ht hB1 hB2 hkc hxm hX hbB
        go_wp2_with (first
          | ((with_reducible show wpList _ _ _ (⟨some 51, _, _, _, _, _⟩ :: _) _ _)
             refine wpList_cv rfl (.tmp 50) 34 5 9 rfl Try.underlying34 Try.underlying5 Try.underlying9 _ _ _ rfl t (R1.out.below HB.out) ?_)
          | ((with_reducible show wpList _ _ _ (⟨some 53, _, _, _, _, _⟩ :: _) _ _)
             have N6 : Rd (wr.alloc (.cells #[.string ⟨t.toArray⟩] 9)) (some ⟨wr.heap.size, 0, none⟩) 1 1 (st8 [t]) := (Vk.new wr 9 [.string ⟨t.toArray⟩]).rd 1 1 rfl
             have N7 : w.heap.size ≤ (wr.alloc (.cells #[.string ⟨t.toArray⟩] 9)).heap.size := by have := HB.out.size; simp; omega
             have N8 := OW.out.alloc (.cells #[.string ⟨t.toArray⟩] 9)
             refine wpList_app rfl (.tmp 46) (.tmp 52) 22 rfl w.heap.size 9 (.string ⟨#[]⟩) 1 16 Try.underlying22 info9 rfl (by omega) _ _ k (st8 got) rfl N8 _ 1 _ (st8 [t]) rfl N6 (st8_one _) hk63.out hkby.out N7 ?_
             intro A6 c6 w6 hown hgr hz
             clear hz
             have HB6 := hide ((Below.al HB.out _).grown hgr N7 (fun j hj => (own_lt N8 j hj).1))
             rw [← st8_append] at hown
             have O6 := hide hown
             clear hown hgr N6 N7 N8))
        go_roundw
        case rel =>
          refine ⟨k + 1, m - (X + 1), d - (X + 1), c6, A6, B2, got ++ [t], rest.drop (X + 1), rfl, (own_cap O6.out).1, O6.out, rfl, by omega, by omega, R2.out, ?_, ?_, HB6.out⟩
          · rw [body_app, body_one, HP.out, List.append_assoc]
            exact congrArg _ HST.out.1
          · intro s hs
            rcases List.mem_append.1 hs with hs | hs
            · exact HG.out s hs
            · rw [List.mem_singleton.1 hs, HST.out.2]; exact hX2
        case measure => simp; omega
    · obtain rfl : m = 0 := by omega
      have hrn : rest = [] := List.eq_nil_of_length_eq_zero hrl.out
      have hpg : p = body got := by rw [hpe, hrn, List.append_nil]
      have hkg : got.length = k := by have e1 := hown.1; rw [st8_length] at e1; omega
      have HKG := hide hkg
      by_cases hk0 : k = 0
      · subst hk0
        have hg0 : got = [] := List.eq_nil_of_length_eq_zero hkg
        have HNO := hide (show secOk e a → ∀ l, ¬ isSec (secN e a) b l from fun _ l hl => hl.1 (by rw [parse_same hpg hgs HPART.out hl, hg0]))
        clear hown hrest hpe hgs hbr hrn hpg hkg
        go_wp2_with fail
        go_ret2
        exact read_no HNO.out HB.out
      · have hkk : ((k : Int) == 0) = false := by rw [beq_eq_false_iff_ne]; omega
        have hcost : costs got ≤ 239 := by
          rw [← body_length got hgs, ← hpg, hpl.out]; exact hM2
        have LA := hide (fun w h => lay_any e a HOK.out O k co got w (by omega) h hgs hcost)
        have HLN := hide (layB_length (secN e a) got (by rw [body_length got hgs]; exact hcost))
        have EQ := hide (fun g w h h' => equal_any (some ⟨g, 0, none⟩) (some ⟨bA, oA, none⟩) 256 256 256 c (layB (secN e a) got) b w h h')
        by_cases hq : layB (secN e a) got = b
        · have HY := hide (readS_yes HOK.out (show isSec (secN e a) b got from ⟨fun h0 => hk0 (by rw [← hkg, h0]; rfl), hgs, hcost, hq⟩))
          have hqb : (layB (secN e a) got == b) = true := by rw [hq]; exact beq_self_eq_true _
          rw [hqb] at EQ
          clear hown hrest hpe hgs hbr hrn hpg hkg hcost hqb hk0
          go_wp2_with (first
            | (go_at_call 22; refine (LA.out _ (Rs.of_own OW.out)).mono ?_; rintro r w3 ⟨gb, rfl, hgb, hv3, hb3⟩
               have V3 := hide hv3
               have HB3 := hide hb3
               clear hv3)
            | (go_at_call 25; refine (EQ.out _ _ (V3.out.rd 1 256 (by rw [by8_length, HLN.out])) (R.out.below (Below.then_ HB.out HB3.out))).mono ?_; rintro r w4 ⟨rfl, rfl⟩))
          go_ret2
          exact ⟨O, k, co, by rw [HY.out]; rfl, by rw [HY.out]; exact (Rs.of_own OW.out).below HB3.out, hk239, by rw [HY.out]; exact own_below OW.out HB3.out, Below.then_ HB.out HB3.out⟩
        · have HNO := hide (show secOk e a → ∀ l, ¬ isSec (secN e a) b l from fun _ l hl => hq (by rw [← parse_same hpg hgs HPART.out hl]; exact hl.2.2.2))
          have hqb : (layB (secN e a) got == b) = false := beq_false_of_ne hq
          rw [hqb] at EQ
          clear hown hrest hpe hgs hbr hrn hpg hkg hcost hqb hk0 hq
          go_wp2_with (first
            | (go_at_call 22; refine (LA.out _ (Rs.of_own OW.out)).mono ?_; rintro r w3 ⟨gb, rfl, hgb, hv3, hb3⟩
               have V3 := hide hv3
               have HB3 := hide hb3
               clear hv3)
            | (go_at_call 25; refine (EQ.out _ _ (V3.out.rd 1 256 (by rw [by8_length, HLN.out])) (R.out.below (Below.then_ HB.out HB3.out))).mono ?_; rintro r w4 ⟨rfl, rfl⟩))
          go_ret2
          exact read_no HNO.out (Below.then_ HB.out HB3.out)
theorem read_any (e a : Int) (A : Option Addr) (n c : Nat) (b : List UInt8) (w : World) (hnc : n ≤ c) (h : Rb w A n b) : Calls Try.prog 14 #[.slice A n c, .int .i64 e, .int .i64 a] w (ReadPost b e a w) := by
  by_cases hr : n = 256 ∧ secOk e a
  · obtain ⟨rfl, hok⟩ := hr
    exact read_in e a hok A c b w hnc h
  · exact read_out e a A n c b w h hr
end Go.Proofs.Ytmdhckcoinhfpaa

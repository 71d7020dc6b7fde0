/- The walk of the reference's Read. -/
import Derived.Test.YtmdhckcoinhfpaaWh
import Derived.Test.YtmdhckcoinhfpaaWc
import Derived.Deep.Light
import Derived.Deep.RegionHeld
namespace Go.Proofs.Ytmdhckcoinhfpaa
open Go.RowKit

theorem isSec.drop9 {n : Nat} {b : List UInt8} {l : List Tx} (h : isSec n b l) : ∃ Z, b.drop 9 = body l ++ Z := by
  obtain ⟨_, _, _, rfl⟩ := h
  refine ⟨zeros8 (239 - (body l).length) ++ be8 n, ?_⟩
  unfold layB
  rw [List.append_assoc, List.append_assoc]
  exact List.drop_left' (by simp [be8_length])
theorem getD_off {α : Type} (b : List α) (k j : Nat) (d : α) : b.getD (k + j) d = (b.drop k).getD j d := by
  simp [List.getD, List.getElem?_drop]
/-- One text of a sector, where the parse stands. -/
theorem sec_next {n : Nat} {b : List UInt8} {got c : List Tx} {s : Tx} (h : isSec n b (got ++ s :: c)) : (b.getD (9 + (body got).length) 0).toNat = s.length ∧ (b.drop (9 + (body got).length + 1)).take s.length = s ∧ 9 + (body got).length + 1 + s.length ≤ 248 := by
  obtain ⟨Z, hZ⟩ := h.drop9
  have hs := h.2.1 s (by simp)
  rw [body_app, body_cons, List.append_assoc] at hZ
  have h1 := h.len.1
  rw [body_app, body_cons] at h1
  simp only [List.length_append, List.length_cons] at h1
  refine ⟨?_, ?_, by omega⟩
  · rw [getD_off, hZ]
    simp [List.getD]
    omega
  · rw [show 9 + (body got).length + 1 = 9 + ((body got).length + 1) by omega, ← List.drop_drop, hZ, List.drop_append, List.drop_of_length_le (by omega), List.nil_append, show (body got).length + 1 - (body got).length = 1 by omega]
    simp
/-- A step of a drawn region that is taken first: the operation number i yields v. -/
theorem takeY {P : Program} {md : Region.Mode} {ops : Array Oper} {Q : Exit → Act → World → Prop} {S : World → Prop} (i : Nat) (d : Option Tmp) (v : Value) {fuel : Nat} {listed : Array Bool} {a : Act} {w : World}
    (hd : (ops[i]?).map (·.dst) = some d) (hs : Region.noSelect ops = true) (hf : Region.free md ops listed i = true) (hr : (Region.ready md ops listed).contains i = true)
    (hQ : ∀ c a w, Q (.panic c) (a.put d v) w → Q (.panic c) a w) (hw : (ops[i]?).any (fun o => Region.wanted o (yielded ops a.tmps)) = true)
    (hy : ∀ o, ops[i]? = some o → ∀ w, S w → (execOp a.eval o).run P w = .ok (.value v) w) (hS : S w)
    (h : wpAnyH P md ops Q S fuel (listed.setIfInBounds i true) (a.put d v) w) : wpAnyH P md ops Q S (fuel + 1) listed a w := by
  obtain ⟨o, ho⟩ : ∃ o, ops[i]? = some o := by
    cases hh : ops[i]? with
    | none => rw [hh] at hd; simp at hd
    | some o => exact ⟨o, rfl⟩
  rw [ho] at hd hw
  simp only [Option.map_some, Option.some.injEq] at hd
  subst hd
  exact wpAnyH_take ho hs hf hr hQ (Or.inl ⟨by simpa using hw, hy o ho⟩) hS h
/-- A step that is not wanted: nothing is laid down. -/
theorem takeN {P : Program} {md : Region.Mode} {ops : Array Oper} {Q : Exit → Act → World → Prop} {S : World → Prop} (i : Nat) (d : Option Tmp) {fuel : Nat} {listed : Array Bool} {a : Act} {w : World}
    (hd : (ops[i]?).map (·.dst) = some d) (hs : Region.noSelect ops = true) (hf : Region.free md ops listed i = true) (hr : (Region.ready md ops listed).contains i = true)
    (hQ : ∀ c a w, Q (.panic c) (a.put d undef) w → Q (.panic c) a w) (hw : (ops[i]?).any (fun o => Region.wanted o (yielded ops a.tmps)) = false)
    (hS : S w) (h : wpAnyH P md ops Q S fuel (listed.setIfInBounds i true) (a.put d undef) w) : wpAnyH P md ops Q S (fuel + 1) listed a w := by
  obtain ⟨o, ho⟩ : ∃ o, ops[i]? = some o := by
    cases hh : ops[i]? with
    | none => rw [hh] at hd; simp at hd
    | some o => exact ⟨o, rfl⟩
  rw [ho] at hd hw
  simp only [Option.map_some, Option.some.injEq] at hd
  subst hd
  exact wpAnyH_take ho hs hf hr hQ (Or.inr ⟨by simpa using hw, rfl⟩) hS h
set_option maxHeartbeats 4000000 in
theorem rread_out (e a : Int) (A : Option Addr) (n c : Nat) (b : List UInt8) (w : World) (h : Rb w A n b) (hr : ¬ (n = 256 ∧ secOk e a)) : Calls Try.prog 15 #[.slice A n c, .int .i64 e, .int .i64 a] w (ReadPost b e a w) := by
  have hl := h.len
  have HN := hide (show secOk e a → ∀ l, ¬ isSec (secN e a) b l from fun hok l hs => hr ⟨by rw [← hl]; exact hs.len.2.1, hok⟩)
  unfold secOk at hr
  clear h hl
  by_cases h0 : n = 256
  · subst h0
    by_cases h1 : e < 1
    · have d1 : decide (e < 1) = true := decide_eq_true h1
      clear hr h1
      go_enter Try.func15, Try.ntmps15
      go_wp2_with fail
      go_ret2
      exact read_no HN.out (Below.refl _ _)
    · have d1 : decide (e < 1) = false := decide_eq_false h1
      by_cases h2 : 1099511627776 < e
      · have d2 : decide (1099511627776 < e) = true := decide_eq_true h2
        clear hr h1 h2
        go_enter Try.func15, Try.ntmps15
        go_wp2_with fail
        go_ret2
        exact read_no HN.out (Below.refl _ _)
      · have d2 : decide (1099511627776 < e) = false := decide_eq_false h2
        by_cases h3 : a < 0
        · have d3 : decide (a < 0) = true := decide_eq_true h3
          clear hr h1 h2 h3
          go_enter Try.func15, Try.ntmps15
          go_wp2_with fail
          go_ret2
          exact read_no HN.out (Below.refl _ _)
        · have d3 : decide (a < 0) = false := decide_eq_false h3
          have d4 : decide (256 ≤ a) = true := by simp; omega
          clear hr h1 h2 h3
          go_enter Try.func15, Try.ntmps15
          go_wp2_with fail
          go_ret2
          exact read_no HN.out (Below.refl _ _)
  · have d0 : ((n : Int) != 256) = true := by rw [bne_iff_ne]; omega
    clear hr h0
    go_enter Try.func15, Try.ntmps15
    go_wp2_with fail
    go_ret2
    exact read_no HN.out (Below.refl _ _)
theorem min248 {P : Program} (x M : Nat) (y : Int) (hy : y = x) (hM : min 248 x = M) (w : World) : (Builtin.min_ #[3, 3] 3 #[.int .i64 248, .int .i64 y]).run P w = .ok (.int .i64 (M : Int)) w := by
  subst hy
  have h : (if (x : Int) < 248 then (x : Int) else 248) = (M : Int) := by split <;> omega
  rw [run_min_int2, h]
theorem rlay_rb (e a : Int) (hok : secOk e a) (A : Option Addr) (m c : Nat) (L : List Tx) (w : World) (hm : m ≤ 1000) (h : Rs w A m L) (hs : ∀ s ∈ L, s.length ≤ 238) (hc : costs L ≤ 239) :
    Calls Try.prog 24 #[.int .i64 e, .int .i64 a, .slice A m c] w fun r w' => ∃ A' n' c', r = .returned (.slice A' n' c') ∧ Rb w' A' n' (layB (secN e a) L) ∧ Below w.heap.size w w' :=
  (rlay_any e a hok A m c L w hm h hs hc).mono fun _ _ ⟨A', c', h1, h2, h3⟩ => ⟨A', 256, c', h1, Rb.of_own h2, h3⟩
set_option maxRecDepth 100000 in
set_option maxHeartbeats 16000000 in
theorem rread_in (e a : Int) (hok : secOk e a) (A : Option Addr) (n c : Nat) (b : List UInt8) (w : World) (hn : n = 256) (hc : n ≤ c) (h : Rb w A n b) : Calls Try.prog 15 #[.slice A n c, .int .i64 e, .int .i64 a] w (ReadPost b e a w) := by
  obtain ⟨h1, h2, h3, h4⟩ := hok
  have HN6 := hide hn
  have dn : ((n : Int) != 256) = false := by rw [bne_eq_false_iff_eq]; omega
  have hn8 : 8 < n := by omega
  have d0 : decide (e < 1) = false := decide_eq_false (by omega)
  have d1 : decide (1099511627776 < e) = false := decide_eq_false (by omega)
  have d2 : decide (a < 0) = false := decide_eq_false (by omega)
  have d3 : decide (256 ≤ a) = false := by simp; omega
  have HOK := hide (show secOk e a from ⟨h1, h2, h3, h4⟩)
  have R := hide h
  obtain ⟨bA, oA, rfl, hbA, hcA⟩ := h.at_ (by omega)
  clear hcA
  obtain ⟨y, hy⟩ : ∃ y, b.getD 8 0 = y := ⟨_, rfl⟩
  have c8 : w.cell? ⟨bA, oA + 8, none⟩ = some (.int .u8 (y.toNat : Int)) := by rw [h.cell_ (k := 8) (by omega), hy]
  obtain ⟨M, hM⟩ : ∃ M, min y.toNat 239 = M := ⟨_, rfl⟩
  have hmin := min239 (P := Try.prog) y.toNat M hM
  have hM2 : M ≤ 239 := by omega
  have hm0 : (0 : Int) ≤ (M : Int) := by omega
  obtain ⟨N, hN⟩ : ∃ N, secN e a = N := ⟨_, rfl⟩
  have HN := hide hN
  have HLE := hide (show ∀ l, isSec N b l → (body l).length = M from fun l hl => by rw [← hl.at8.2, hy, hM])
  have hy1 := y.toNat_lt
  clear h h1 h2 h3 h4 hM hy hN hn
  go_enter Try.func15, Try.ntmps15
  go_wp2_with fail
  go_loopw [8, 10] (fun l i wr => ∃ (k I co : Nat) (O : Option Addr) (got : List Tx), l = .slice O k co ∧ k ≤ co ∧ wr.ownsRow w.heap.size 9 1 (.slice O k co) k (st8 got) ∧ i = .int .i64 I ∧ 9 + k ≤ I ∧ I ≤ 600 ∧ (∀ s ∈ got, s.length ≤ 238) ∧ (∀ l, isSec N b l → ∃ c, l = got ++ c ∧ I = 9 + (body got).length) ∧ Below w.heap.size w wr) (fun _ i _ => 9 + M - (intOf i).toNat)
  case atStart => exact ⟨0, 9, 0, none, [], rfl, Nat.le_refl _, World.ownsRow_nil _ _ _ _, rfl, by omega, by omega, fun s hs => by simp at hs, fun l _ => ⟨l, rfl, rfl⟩, Below.refl _ _⟩
  case round =>
    obtain ⟨k, I, co, O, got, rfl, hkc, hown, rfl, hkI, hI6, hgs, hsec, hbr⟩ := hrel
    have OW := hide hown
    have HG := hide hgs
    have HS := hide hsec
    have HB := hide hbr
    have hkg : got.length = k := by have e1 := hown.1; rw [st8_length] at e1; omega
    have HKG := hide hkg
    by_cases hlt : I < 9 + M
    · obtain ⟨x, hx⟩ : ∃ x, b.getD I 0 = x := ⟨_, rfl⟩
      have cI : wr.cell? ⟨bA, oA + I, none⟩ = some (.int .u8 (x.toNat : Int)) := by
        rw [(hbr.cell (p := ⟨bA, oA + I, none⟩) hbA), R.out.cell_ (k := I) (by have := HN6.out; omega), hx]
      have hx1 := x.toNat_lt
      obtain ⟨X, hX⟩ : ∃ X, x.toNat = X := ⟨_, rfl⟩
      rw [hX] at cI hx1
      obtain ⟨J, hJ⟩ : ∃ J, min 248 (I + 1 + X) = J := ⟨_, rfl⟩
      have hmn := min248 (P := Try.prog) (I + 1 + X) J ((I : Int) + 1 + (X : Int)) (by omega) hJ
      have hJ1 : I + 1 ≤ J := by omega
      have hJ2 : J ≤ 248 := by omega
      have u1 := run_lohi slice34 size5 (some ⟨bA, oA, none⟩) n c (I + 1) J ((I : Int) + 1) (J : Int) (by omega) rfl hJ1 (by have := HN6.out; omega)
      have R1 := hide (R.out.lohi_ (I + 1) J c hJ1 (by have := HN6.out; omega) hc)
      obtain ⟨B1, hB1⟩ : ∃ Q, cutA (some ⟨bA, oA, none⟩) c (I + 1) = Q := ⟨_, rfl⟩
      obtain ⟨T, hT⟩ : ∃ T, J - (I + 1) = T := ⟨_, rfl⟩
      rw [hB1, hT] at u1 R1
      obtain ⟨t, ht⟩ : ∃ t, (b.drop (I + 1)).take T = t := ⟨_, rfl⟩
      rw [ht] at R1
      have HT2 := hide (show t.length ≤ 238 by rw [R1.out.len]; omega)
      have HSEC := hide (show ∀ l, isSec N b l → ∃ c, l = (got ++ [t]) ++ c ∧ I + (1 + X) = 9 + (body (got ++ [t])).length from fun l hl => by
        obtain ⟨cc, hl1, hI⟩ := hsec l hl
        have hle := HLE.out l hl
        match cc, hl1 with
        | [], hl1 => rw [hl1, List.append_nil] at hle; omega
        | s :: c', hl1 =>
          rw [hl1] at hl
          obtain ⟨q1, q2, q3⟩ := sec_next hl
          rw [← hI, hx, hX] at q1
          rw [← hI] at q2 q3
          have hTs : t = s := by rw [← ht, ← q2, ← hT, ← q1]; congr 1; omega
          refine ⟨c', by rw [hl1, hTs, List.append_assoc]; rfl, ?_⟩
          rw [body_app, body_one, List.length_append, hTs, List.length_cons, ← q1]
          omega)
      have hk63 := hide (show k + 1 ≤ maxLen by unfold maxLen; omega)
      have hkby := hide (show (k + 1) * 16 ≤ 140737488355328 by omega)
      have hi0 : (0 : Int) ≤ (I : Int) := by omega
      have hi256 : I < n := by have := HN6.out; omega
      clear hown hgs hsec hbr hkg hx hX hJ hB1 hT ht
      go_wp2_with (first
        | ((with_reducible show wpList _ _ _ (⟨some 61, _, _, _, _, _⟩ :: _) _ _)
           refine wpList_cv rfl (.tmp 60) 34 5 9 rfl Try.underlying34 Try.underlying5 Try.underlying9 _ _ _ rfl t (R1.out.below HB.out) ?_)
        | ((with_reducible show wpList _ _ _ (⟨some 63, _, _, _, _, _⟩ :: _) _ _)
           have N6 : Rd (wr.alloc (.cells #[.string ⟨t.toArray⟩] 9)) (some ⟨wr.heap.size, 0, none⟩) 1 1 (st8 [t]) := (Vk.new wr 9 [.string ⟨t.toArray⟩]).rd 1 1 rfl
           have N7 : w.heap.size ≤ (wr.alloc (.cells #[.string ⟨t.toArray⟩] 9)).heap.size := by have := HB.out.size; simp; omega
           have N8 := OW.out.alloc (.cells #[.string ⟨t.toArray⟩] 9)
           refine wpList_app rfl (.tmp 47) (.tmp 62) 22 rfl w.heap.size 9 (.string ⟨#[]⟩) 1 16 Try.underlying22 info9 rfl (by omega) _ _ k (st8 got) rfl N8 _ 1 _ (st8 [t]) rfl N6 (st8_one _) hk63.out hkby.out N7 ?_
           intro A6 c6 w6 hown hgr hz
           clear hz
           have HB6 := hide ((Below.al HB.out _).grown hgr N7 (fun j hj => (own_lt N8 j hj).1))
           have cI6 : w6.cell? ⟨bA, oA + I, none⟩ = some (.int .u8 (X : Int)) := by
             rw [(HB6.out.cell (p := ⟨bA, oA + I, none⟩) hbA), ← (HB.out.cell (p := ⟨bA, oA + I, none⟩) hbA), cI]
           rw [← st8_append] at hown
           have O6 := hide hown
           clear hown hgr N6 N7 N8))
      go_roundw
      case rel =>
        refine ⟨k + 1, I + (1 + X), c6, A6, got ++ [t], rfl, (own_cap O6.out).1, O6.out, by go_num, by omega, by omega, ?_, HSEC.out, HB6.out⟩
        intro s hs
        rcases List.mem_append.1 hs with hs | hs
        · exact HG.out s hs
        · rw [List.mem_singleton.1 hs]; exact HT2.out
      case measure => simp [intOf]; omega
    · have HEND := hide (show ∀ l, isSec N b l → l = got from fun l hl => by
        obtain ⟨cc, hl1, hI⟩ := hsec l hl
        have hle := HLE.out l hl
        rw [hl1, body_app, List.length_append] at hle
        have : cc = [] := body_nil_of (by omega)
        rw [hl1, this, List.append_nil])
      by_cases hk0 : k = 0
      · subst hk0
        have hg0 : got = [] := List.eq_nil_of_length_eq_zero hkg
        have HNO := hide (show secOk e a → ∀ l, ¬ isSec (secN e a) b l from fun _ l hl => hl.1 (by rw [HN.out] at hl; rw [HEND.out l hl, hg0]))
        clear hown hgs hsec hbr hkg hg0
        go_wp2_with fail
        go_quiet (fail)
        go_wp2_with fail
        go_ret2
        exact read_no HNO.out (Below.drewN' HB.out _)
      · have hkk : ((k : Int) == 0) = false := by rw [beq_eq_false_iff_ne]; omega
        have hk1000 : k ≤ 1000 := by omega
        have PA := hide (fun w h => rparts_any O k co got w (by omega) h)
        by_cases hp1 : parts got = 1
        · have hcost := ((parts_one got).1 hp1).2
          rw [hp1] at PA
          have LA := hide (fun w h => rlay_rb e a HOK.out O k co got w hk1000 h hgs hcost)
          rw [HN.out] at LA
          have hk3 := hide (show k ≤ 239 by have := length_le_costs' got; omega)
          have KB := hide (fun w' (h : Rb w' (some ⟨bA, oA, none⟩) n b) => conv_bytes (P := Try.prog) 34 5 9 Try.underlying34 Try.underlying5 Try.underlying9 c h)
          have HY := hide (fun (hq : layB N got = b) => readS_yes HOK.out (show isSec (secN e a) b got from ⟨fun h0 => hk0 (by rw [← hkg, h0]; rfl), hgs, hcost, by rw [HN.out]; exact hq⟩))
          have HNO := hide (fun (hq : ¬ layB N got = b) => (fun _ l hl => hq (by rw [HN.out] at hl; rw [← HEND.out l hl]; exact hl.2.2.2) : secOk e a → ∀ l, ¬ isSec (secN e a) b l))
          obtain ⟨q, hq⟩ : ∃ q, (layB N got == b) = q := ⟨_, rfl⟩
          have HQ := hide hq
          clear hown hgs hsec hbr hkg hp1 hcost hkc
          go_upto_region 9 with (fail)
          go_cut [81] (fun t wx => t = .bool (!q) ∧ wx.ownsRow w.heap.size 9 1 (.slice O k co) k (st8 got) ∧ Below w.heap.size w wx)
          case first =>
            clear d0 d1 d2 d3 c8 hmin hm0 hM2 hy1 hkI hI6 hlt hk0 hc HLE HEND HS HG HKG HN HOK hbA HY HNO HQ
            clear HN6 dn hn8
            go_region_held (fun z => (convert 34 9 (.slice (some ⟨bA, oA, none⟩) n c)).run Try.prog z = .ok (.string ⟨b.toArray⟩) z)
              (first
                | exact KB.out _ (R.out.below HB.out.drew)
                | exact KB.out _ (R.out.below HB4.out)
                | exact KB.out _ (R.out.below HB3.out))
              (first
                | (go_at_call 13
                   refine (PA.out wr.drew (Rs.of_own OW.out.drew)).mono ?_
                   rintro r w3 ⟨rfl, hb3⟩
                   have HB3 := hide (Below.then_ HB.out.drew hb3)
                   have O3 := hide (own_below OW.out.drew hb3)
                   clear hb3)
                | (go_at_call 24
                   refine (LA.out w3 (Rs.of_own O3.out)).mono ?_
                   rintro r w4 ⟨Ab, nb, cb, rfl, hv4, hb4⟩
                   have HB4 := hide (Below.then_ HB3.out hb4)
                   have O4 := hide (own_below O3.out hb4)
                   have ka4 := conv_bytes (P := Try.prog) 34 5 9 Try.underlying34 Try.underlying5 Try.underlying9 cb hv4
                   clear hb4 hv4))
            all_goals (go_wp2_with fail; go_meet; exact ⟨rfl, O4.out, HB4.out⟩)
          case rest =>
            obtain ⟨rfl, hrw, hbw⟩ := hcut
            cases q
            · go_wp2_with fail
              go_ret2
              exact read_no (HNO.out (ne_of_beq_false HQ.out)) hbw
            · have hy := HY.out (eq_of_beq HQ.out)
              go_wp2_with fail
              go_ret2
              refine ⟨O, k, co, ?_, ?_, hk3.out, ?_, hbw⟩
              · rw [hy]; rfl
              · rw [hy]; exact Rs.of_own hrw
              · rw [hy]; exact hrw
        · have HNO := hide (show secOk e a → ∀ l, ¬ isSec (secN e a) b l from fun _ l hl => hp1 (by
            rw [HN.out] at hl
            have h0 := HEND.out l hl
            rw [← h0]
            exact (parts_one l).2 ⟨hl.1, hl.2.2.1⟩))
          have hpb := parts_le got
          obtain ⟨p, hp⟩ : ∃ p, parts got = p := ⟨_, rfl⟩
          rw [hp] at PA hp1 hpb
          have dp : ((p : Int) != 1) = true := by rw [bne_iff_ne]; omega
          clear hown hgs hsec hbr hkg hp1 hp
          go_wp2_with fail
          refine wp_region_held_drew (S := fun _ => True) (by kernel_rfl) trivial (fun _ => ?_)
          refine takeY 0 (some 64) (.slice O k co) rfl (by kernel_rfl) (by kernel_rfl) (by kernel_rfl) (fun _ _ _ h => h) (by kernel_rfl) (fun o ho w hSw => ?_) trivial ?_
          · simp only [List.getElem?_toArray, List.getElem?_cons_zero, Option.some.injEq] at ho
            subst ho
            go_simp
          try simp only [Act.put, List.setIfInBounds_toArray, List.set_cons_zero, List.set_cons_succ]
          refine takeY 1 (some 65) (.int .i64 k) rfl (by kernel_rfl) (by kernel_rfl) (by kernel_rfl) (fun _ _ _ h => h) (by kernel_rfl) (fun o ho w hSw => ?_) trivial ?_
          · simp only [List.getElem?_toArray, List.getElem?_cons_zero, List.getElem?_cons_succ, Option.some.injEq] at ho
            subst ho
            go_simp
          try simp only [Act.put, List.setIfInBounds_toArray, List.set_cons_zero, List.set_cons_succ]
          refine takeY 2 (some 66) (.bool false) rfl (by kernel_rfl) (by kernel_rfl) (by kernel_rfl) (fun _ _ _ h => h) (by kernel_rfl) (fun o ho w hSw => ?_) trivial ?_
          · simp only [List.getElem?_toArray, List.getElem?_cons_zero, List.getElem?_cons_succ, Option.some.injEq] at ho
            subst ho
            go_simp
          try simp only [Act.put, List.setIfInBounds_toArray, List.set_cons_zero, List.set_cons_succ]
          refine takeY 3 (some 67) (.bool false) rfl (by kernel_rfl) (by kernel_rfl) (by kernel_rfl) (fun _ _ _ h => h) (by kernel_rfl) (fun o ho w hSw => ?_) trivial ?_
          · simp only [List.getElem?_toArray, List.getElem?_cons_zero, List.getElem?_cons_succ, Option.some.injEq] at ho
            subst ho
            go_simp
          try simp only [Act.put, List.setIfInBounds_toArray, List.set_cons_zero, List.set_cons_succ]
          refine takeY 4 (some 68) (.slice O k co) rfl (by kernel_rfl) (by kernel_rfl) (by kernel_rfl) (fun _ _ _ h => h) (by kernel_rfl) (fun o ho w hSw => ?_) trivial ?_
          · simp only [List.getElem?_toArray, List.getElem?_cons_zero, List.getElem?_cons_succ, Option.some.injEq] at ho
            subst ho
            go_simp
          try simp only [Act.put, List.setIfInBounds_toArray, List.set_cons_zero, List.set_cons_succ]
          refine wpAnyH_ready (rs := [5]) (by kernel_rfl) (by simp) (AllReadyH.cons rfl (fun K hK => ?_) AllReadyH.nil)
          go_simp
          go_wp2_with (
            go_at_call 13
            refine (PA.out wr.drew (Rs.of_own OW.out.drew)).mono ?_
            rintro r w3 ⟨rfl, hb3⟩
            have HB3 := hide (Below.then_ HB.out.drew hb3)
            clear hb3)
          refine hK.out _ _ trivial (fun _ => ?_)
          clear hK K
          try simp only [Act.put, List.setIfInBounds_toArray, List.set_cons_zero, List.set_cons_succ]
          refine takeY 6 (some 70) (.bool true) rfl (by kernel_rfl) (by kernel_rfl) (by kernel_rfl) (fun _ _ _ h => h) (by kernel_rfl) (fun o ho w hSw => ?_) trivial ?_
          · simp only [List.getElem?_toArray, List.getElem?_cons_zero, List.getElem?_cons_succ, Option.some.injEq] at ho
            subst ho
            go_simp
          try simp only [Act.put, List.setIfInBounds_toArray, List.set_cons_zero, List.set_cons_succ]
          refine takeY 7 (some 71) (.bool true) rfl (by kernel_rfl) (by kernel_rfl) (by kernel_rfl) (fun _ _ _ h => h) (by kernel_rfl) (fun o ho w hSw => ?_) trivial ?_
          · simp only [List.getElem?_toArray, List.getElem?_cons_zero, List.getElem?_cons_succ, Option.some.injEq] at ho
            subst ho
            go_simp
          try simp only [Act.put, List.setIfInBounds_toArray, List.set_cons_zero, List.set_cons_succ]
          refine takeY 8 (some 72) (.bool true) rfl (by kernel_rfl) (by kernel_rfl) (by kernel_rfl) (fun _ _ _ h => h) (by kernel_rfl) (fun o ho w hSw => ?_) trivial ?_
          · simp only [List.getElem?_toArray, List.getElem?_cons_zero, List.getElem?_cons_succ, Option.some.injEq] at ho
            subst ho
            go_simp
          try simp only [Act.put, List.setIfInBounds_toArray, List.set_cons_zero, List.set_cons_succ]
          refine takeN 9 (some 73) rfl (by kernel_rfl) (by kernel_rfl) (by kernel_rfl) (fun _ _ _ h => h) (by kernel_rfl) trivial ?_
          try simp only [Act.put, List.setIfInBounds_toArray, List.set_cons_zero, List.set_cons_succ]
          refine takeN 10 (some 74) rfl (by kernel_rfl) (by kernel_rfl) (by kernel_rfl) (fun _ _ _ h => h) (by kernel_rfl) trivial ?_
          try simp only [Act.put, List.setIfInBounds_toArray, List.set_cons_zero, List.set_cons_succ]
          refine takeN 11 (some 75) rfl (by kernel_rfl) (by kernel_rfl) (by kernel_rfl) (fun _ _ _ h => h) (by kernel_rfl) trivial ?_
          try simp only [Act.put, List.setIfInBounds_toArray, List.set_cons_zero, List.set_cons_succ]
          refine takeN 12 (some 76) rfl (by kernel_rfl) (by kernel_rfl) (by kernel_rfl) (fun _ _ _ h => h) (by kernel_rfl) trivial ?_
          try simp only [Act.put, List.setIfInBounds_toArray, List.set_cons_zero, List.set_cons_succ]
          refine takeN 13 (some 77) rfl (by kernel_rfl) (by kernel_rfl) (by kernel_rfl) (fun _ _ _ h => h) (by kernel_rfl) trivial ?_
          try simp only [Act.put, List.setIfInBounds_toArray, List.set_cons_zero, List.set_cons_succ]
          refine takeN 14 (some 78) rfl (by kernel_rfl) (by kernel_rfl) (by kernel_rfl) (fun _ _ _ h => h) (by kernel_rfl) trivial ?_
          try simp only [Act.put, List.setIfInBounds_toArray, List.set_cons_zero, List.set_cons_succ]
          refine takeN 15 (some 79) rfl (by kernel_rfl) (by kernel_rfl) (by kernel_rfl) (fun _ _ _ h => h) (by kernel_rfl) trivial ?_
          try simp only [Act.put, List.setIfInBounds_toArray, List.set_cons_zero, List.set_cons_succ]
          refine takeN 16 (some 80) rfl (by kernel_rfl) (by kernel_rfl) (by kernel_rfl) (fun _ _ _ h => h) (by kernel_rfl) trivial ?_
          try simp only [Act.put, List.setIfInBounds_toArray, List.set_cons_zero, List.set_cons_succ]
          refine takeY 17 (some 81) (.bool true) rfl (by kernel_rfl) (by kernel_rfl) (by kernel_rfl) (fun _ _ _ h => h) (by kernel_rfl) (fun o ho w hSw => ?_) trivial ?_
          · simp only [List.getElem?_toArray, List.getElem?_cons_zero, List.getElem?_cons_succ, Option.some.injEq] at ho
            subst ho
            go_simp
          try simp only [Act.put, List.setIfInBounds_toArray, List.set_cons_zero, List.set_cons_succ]
          refine wpAnyH_done (by kernel_rfl) ?_ _
          all_goals (go_wp2_with fail; go_ret2; exact read_no HNO.out HB3.out)
theorem rread_any (e a : Int) (A : Option Addr) (n c : Nat) (b : List UInt8) (w : World) (hnc : n ≤ c) (h : Rb w A n b) : Calls Try.prog 15 #[.slice A n c, .int .i64 e, .int .i64 a] w (ReadPost b e a w) := by
  by_cases hr : n = 256 ∧ secOk e a
  · obtain ⟨rfl, hok⟩ := hr
    exact rread_in e a hok A 256 c b w rfl hnc h
  · exact rread_out e a A n c b w h hr
end Go.Proofs.Ytmdhckcoinhfpaa

/- The walk of the law WalsecBack. -/
import Derived.Test.YtmdhckcoinhfpaaLog
import Derived.BigFrame
namespace Go.Proofs.Ytmdhckcoinhfpaa
open Go.RowKit

/-- append(s, x...), as an operation that may be guarded (its guard says yes). -/
theorem wpList_app_w {P : Program} {w : World} {ops : Array Oper} {rest : List Oper} {o : Oper} {a : Act} {Q : Exit → Act → World → Prop} (hw : Region.wanted o (yielded ops a.tmps) = true) (s x : Operand) (t : TypeId)
    (ho : o.op = .call { callee := .builtin .append, args := #[s, x], argTypes := #[t, t] })
    (base : Nat) (e : TypeId) (z : Value) (size bytes : Nat) (ht : P.underlying t = some (.slice e)) (hi : (P.info? e).map (fun i => (i.zero, i.size, i.bytes)) = some (some z, size, bytes))
    (hzs : z.cells.size = size) (hsz : 0 < size)
    (A0 : Option Addr) (c0 n : Nat) (xs : List Value) (hs : a.eval s = .slice A0 n c0) (hown : w.ownsRow base e size (.slice A0 n c0) n xs)
    (A : Option Addr) (m c : Nat) (news : List Value) (hx : a.eval x = .slice A m c) (hr : Rd w A m size news) (h1 : ∀ u ∈ news, u.oneCell' = true)
    (h63 : n + m ≤ maxLen) (hbytes : (n + m) * bytes ≤ 140737488355328) (hbase : base ≤ w.heap.size)
    (h : ∀ A' c' w', w'.ownsRow base e size (.slice A' (n + m) c') (n + m) (xs ++ news) → w.grownBy w' (Value.slice A0 n c0).ownBlock →
      wpList P ops Q rest (a.put o.dst (.slice A' (n + m) c')) w') : wpList P ops Q (o :: rest) a w := by
  refine BigFrame.wpList_want hw fun K hK => ?_
  obtain ⟨A', c', w', hrun, h2, h3, _⟩ := run_app_any base t o.type e z size bytes ht hi hzs hsz A0 c0 n xs hown A m c news hr h1 h63 hbytes hbase
  unfold Oper.wp execOp
  simp only [ho, resolve, invoke, builtin, Sem.run_bind, Sem.run_pure, Result.andThen_ok, List.map_toArray, List.map_cons, List.map_nil, hs, hx, hrun]
  exact hK _ _ (h A' c' w' h2 h3)
theorem nil_row (w : World) (e : TypeId) : (w.alloc (.cells #[] e)).ownsRow w.heap.size e 1 (.slice (some ⟨w.heap.size, 0, none⟩) 0 0) 0 [] :=
  (Vk.new w e []).own (Nat.le_refl _) rfl (Nat.zero_le _)
/-- Two slices of slices, one behind the other in a row of the call's own. -/
theorem Rbb.both {w w' : World} {C : Option Addr} {n m : Nat} {X Y : List (List UInt8)} {vs us : List Value} (hX : X.length = n) (hY : Y.length = m) (hv : vs.length = n)
    (hx : ∀ (i : Nat) (l : List UInt8), X[i]? = some l → ∃ Ai ni ci, vs[i]? = some (Value.slice Ai ni ci) ∧ Rb w Ai ni l ∧ ni ≤ ci ∧ ci ≤ maxLen)
    (hy : ∀ (i : Nat) (l : List UInt8), Y[i]? = some l → ∃ Ai ni ci, us[i]? = some (Value.slice Ai ni ci) ∧ Rb w Ai ni l ∧ ni ≤ ci ∧ ci ≤ maxLen)
    (hr : Rd w' C (n + m) 1 (vs ++ us)) (hb : Below w.heap.size w w') : Rbb w' C (n + m) (X ++ Y) := by
  refine ⟨by rw [List.length_append, hX, hY], _, hr, fun i l hi => ?_⟩
  by_cases h : i < n
  · rw [List.getElem?_append_left (by omega)] at hi
    obtain ⟨Ai, ni, ci, h1, h2, h3⟩ := hx i l hi
    exact ⟨Ai, ni, ci, by rw [List.getElem?_append_left (by omega)]; exact h1, h2.below hb, h3⟩
  · rw [List.getElem?_append_right (by omega), hX] at hi
    obtain ⟨Ai, ni, ci, h1, h2, h3⟩ := hy _ l hi
    exact ⟨Ai, ni, ci, by rw [List.getElem?_append_right (by omega), hv]; exact h1, h2.below hb, h3⟩
theorem slices_one {w : World} {A : Option Addr} {n : Nat} {X : List (List UInt8)} {vs : List Value} (hv : Rd w A n 1 vs) (hx : ∀ (i : Nat) (l : List UInt8), X[i]? = some l → ∃ Ai ni ci, vs[i]? = some (Value.slice Ai ni ci) ∧ Rb w Ai ni l ∧ ni ≤ ci ∧ ci ≤ maxLen) (hl : X.length = n) :
    ∀ u ∈ vs, u.oneCell' = true := by
  intro u hu
  obtain ⟨i, hi, rfl⟩ := List.getElem_of_mem hu
  have hvl : vs.length = n := by have := hv.1; omega
  obtain ⟨Ai, ni, ci, h1, _⟩ := hx i X[i] (List.getElem?_eq_getElem (by omega))
  rw [List.getElem?_eq_getElem hi] at h1
  injection h1 with h1
  rw [h1]; rfl
theorem light_out30 {L M : List Tx} (h : ¬ (lightB L 30 = true ∧ lightB M 30 = true)) : lightB L 30 = false ∨ (lightB L 30 = true ∧ lightB M 30 = false) := by
  cases h1 : lightB L 30 <;> cases h2 : lightB M 30 <;> simp_all
set_option maxHeartbeats 8000000 in
theorem back_light (e : Int) (A B : Option Addr) (n c m d : Nat) (L M : List Tx) (w : World) (h : Rs w A n L) (h' : Rs w B m M) (hl : ¬ (lightB L 30 = true ∧ lightB M 30 = true)) :
    Calls Try.prog 6 #[.int .u32 e, .slice A n c, .slice B m d] w fun r w' => r = .returned (.bool true) ∧ Below w.heap.size w w' := by
  have L1 := hide (light_any A n c 30 L w (by omega) h)
  have L2 := hide (light_any B m d 30 M w (by omega) h')
  have hq := light_out30 hl
  clear hl h h'
  rcases hq with h1 | ⟨h1, h2⟩
  · rw [h1] at L1
    clear h1
    go_enter Try.func6, Try.ntmps6
    go_wp2_with (first
      | (go_at_call_of 7 (Value.slice A n c); refine L1.out.mono ?_; rintro r w1 ⟨rfl, rfl⟩)
      | (go_at_call 8; refine (awake_any _).mono ?_; rintro r w6 ⟨rfl, hb6⟩))
    go_ret
    exact ⟨rfl, hb6⟩
  · rw [h1] at L1
    rw [h2] at L2
    clear h1 h2
    go_enter Try.func6, Try.ntmps6
    go_wp2_with (first
      | (go_at_call_of 7 (Value.slice A n c); refine L1.out.mono ?_; rintro r w1 ⟨rfl, rfl⟩)
      | (go_at_call_of 7 (Value.slice B m d); refine L2.out.mono ?_; rintro r w1 ⟨rfl, rfl⟩)
      | (go_at_call 8; refine (awake_any _).mono ?_; rintro r w6 ⟨rfl, hb6⟩))
    go_ret
    exact ⟨rfl, hb6⟩
set_option maxRecDepth 100000 in
set_option maxHeartbeats 16000000 in
theorem back_in (e : Nat) (he : e ≤ 4294967295) (A B : Option Addr) (n c m d : Nat) (L M : List Tx) (w : World) (hnc : n ≤ c) (hmd : m ≤ d) (h : Rs w A n L) (h' : Rs w B m M) (hl : lightB L 30 = true) (hm : lightB M 30 = true) :
    Calls Try.prog 6 #[.int .u32 (e : Int), .slice A n c, .slice B m d] w fun r w' => r = .returned (.bool true) ∧ Below w.heap.size w w' := by
  have L1 := hide (light_any A n c 30 L w (by omega) h)
  have L2 := hide (light_any B m d 30 M w (by omega) h')
  rw [hl] at L1
  rw [hm] at L2
  have H := hide h
  have H2 := hide h'
  have HL := hide h.len
  have hn30 : n ≤ 30 := by have := lightB_len hl; have := h.len; omega
  have hm30 : m ≤ 30 := by have := lightB_len hm; have := h'.len; omega
  have P1 := hide (fun w h => pack_any (1 + (e : Int)) 0 A n c L w (by omega) hnc h (by omega))
  have PP := hide (fun w h => parts_any A n c L w (by omega) hnc h)
  have hpl := parts_le L
  have hpn := h.len
  unfold PackPost at P1
  clear h h' hl hm
  by_cases h0 : packE (1 + (e : Int)) 0 L = 0
  · have hlen : (packL (1 + (e : Int)) 0 L).length = parts L := by rw [(pack_yes h0).2.2.2.2.2, packK_length]
    have S1 := scan_one h0
    have T2 := scan_twice h0
    have HTwo := hide (fun h' => scan_two (M := M) h0 h')
    have hb256 := (pack_yes h0).2.2.2.1
    obtain ⟨X, hX⟩ : ∃ X, packL (1 + (e : Int)) 0 L = X := ⟨_, rfl⟩
    obtain ⟨p, hp⟩ : ∃ p, parts L = p := ⟨_, rfl⟩
    rw [h0, hX] at P1
    rw [hX, hp] at HTwo S1 T2
    rw [hX, hp] at hlen
    rw [hp] at PP hpl hb256
    have hp30 : p ≤ 30 := by omega
    have HXL := hide hlen
    have Q1 := hide (fun w h => pack_any (1 + (e : Int)) (p : Int) B m d M w (by omega) hmd h (by omega))
    unfold PackPost at Q1
    have SC := hide (fun A c w h => scan_any (1 + (e : Int)) A p c X w (by omega) h)
    unfold ScanPost at SC
    rw [S1.1, S1.2] at SC
    have HT2 := hide T2
    have HPL := hide (show p ≤ n by omega)
    have SA := hide (fun C k w h h2 => sames_any C n k L A n c L w (by omega) h h2)
    rw [decide_eq_true (rfl : L = L)] at SA
    clear h0 hlen S1 T2 hX hp hb256 hpl hpn
    by_cases hE2 : packE (1 + (e : Int)) (p : Int) M = 0
    · have hly : (packL (1 + (e : Int)) (p : Int) M).length = parts M := by rw [(pack_yes hE2).2.2.2.2.2, packK_length]
      have htwo := HTwo.out hE2
      have hpm := parts_le M
      have HM2 := hide H2.out.len
      obtain ⟨Y, hY⟩ : ∃ Y, packL (1 + (e : Int)) (p : Int) M = Y := ⟨_, rfl⟩
      obtain ⟨p2, hp2⟩ : ∃ p2, parts M = p2 := ⟨_, rfl⟩
      rw [hE2, hY] at Q1
      rw [hY, hp2] at htwo
      rw [hY, hp2] at hly
      have hp230 : p2 ≤ 30 := by rw [hp2, HM2.out] at hpm; omega
      have HYL := hide hly
      have SB := hide (fun A c w h => scan_any (1 + (e : Int)) A (p + p2) c (X ++ Y) w (by omega) h)
      have SD := hide (fun A c w h => scan_any (1 + (e : Int)) A (p + p) c (X ++ X) w (by omega) h)
      unfold ScanPost at SB SD
      rw [htwo.1, htwo.2] at SB
      rw [HT2.out.1, HT2.out.2] at SD
      have SE := hide (fun C k D k2 w h h2 => sames_any C (n + m) k (L ++ M) D (n + m) k2 (L ++ M) w (by omega) h h2)
      rw [decide_eq_true (rfl : L ++ M = L ++ M)] at SE
      have hd : decide (n < p) = false := by have := HPL.out; simp; omega
      clear hE2 hly htwo hpm hY hp2
      go_enter Try.func6, Try.ntmps6
      go_wp2_with (first
        | (go_at_call_of 7 (Value.slice A n c); refine L1.out.mono ?_; rintro r w1 ⟨rfl, rfl⟩)
        | (go_at_call_of 7 (Value.slice B m d); refine L2.out.mono ?_; rintro r w1 ⟨rfl, rfl⟩)
        | (go_at_call_of 9 (Value.slice A n c); refine (P1.out _ H.out).mono ?_; rintro r w1 ⟨A1, n1, c1, rfl, ho1, hb1⟩
           have R1 := hide ho1.rbb
           obtain rfl : n1 = p := by rw [← ho1.1]; exact HXL.out
           have HB1 := hide hb1
           clear ho1 hb1)
        | (go_at_call_of 9 (Value.slice B m d); refine (Q1.out _ (H2.out.below HB1.out)).mono ?_; rintro r w2 ⟨A2, n2, c2, rfl, ho2, hb2⟩
           have R2 := hide ho2.rbb
           obtain rfl : n2 = p2 := by rw [← ho2.1]; exact HYL.out
           have R12 := hide (R1.out.below hb2)
           have HB2 := hide (Below.then_ HB1.out hb2)
           clear ho2 hb2)
        | (go_at_call_of 17 (Value.slice A1 n1 c1); refine (SC.out _ _ _ R12.out).mono ?_; rintro r w3 ⟨A3, n3, c3, rfl, hr3, _, hb3⟩
           have HB3 := hide (Below.then_ HB2.out hb3)
           have HW3 := hide hb3
           have R3 := hide hr3
           obtain rfl : n3 = n := by rw [← hr3.len]; exact HL.out
           clear hr3 hb3)
        | (go_at_call_of 16 (Value.slice A3 n3 c3); refine (SA.out _ _ _ R3.out (H.out.below HB3.out)).mono ?_; rintro r w4 ⟨rfl, hb4⟩
           have HB4 := hide (Below.then_ HB3.out hb4)
           have R14 := hide ((R12.out.below HW3.out).below hb4)
           have R24 := hide ((R2.out.below HW3.out).below hb4)
           clear hb4)
        | (go_at_call 12; refine (PP.out _ (H.out.below HB4.out)).mono ?_; rintro r w5 ⟨rfl, rfl⟩)
        | ((with_reducible show wpList _ _ _ (⟨some 83, _, _, _, _, _⟩ :: _) _ _)
           obtain ⟨hl1, vs, hv, hx⟩ := R14.out
           obtain ⟨hl2, us, hu, hy⟩ := R24.out
           have hvl : vs.length = n1 := by have := hv.1; omega
           have NIL := nil_row w4 34
           refine wpList_app rfl (.tmp 81) (.tmp 82) 25 rfl w4.heap.size 34 (.slice none 0 0) 1 24 Try.underlying25 info34 rfl (by omega) _ _ 0 [] rfl NIL _ n1 _ vs rfl (hv.alloc _) (slices_one hv hx hl1) (by unfold maxLen; omega) (by omega) (by simp) ?_
           intro A6 c6 w6 hown hgr hz
           clear hz
           rw [List.nil_append, Nat.zero_add] at hown
           rw [Nat.zero_add]
           have HW6 := hide ((Below.al (Below.refl w4.heap.size w4) (.cells #[] 34)).grown hgr (by simp) (fun j hj => (own_lt NIL j hj).1))
           have O6 := hide hown
           have HXX := hide hx
           have HYY := hide hy
           have HU := hide hu
           have HV := hide hv
           clear hown hgr hx hy hu hv NIL)
        | ((with_reducible show wpList _ _ _ (⟨some 85, _, _, _, _, _⟩ :: _) _ _)
           refine wpList_app rfl (.tmp 83) (.tmp 84) 25 rfl w4.heap.size 34 (.slice none 0 0) 1 24 Try.underlying25 info34 rfl (by omega) _ _ n1 vs rfl O6.out _ n2 _ us rfl (HU.out.below HW6.out) (slices_one HU.out HYY.out hl2) (by unfold maxLen; omega) (by omega) HW6.out.size ?_
           intro A7 c7 w7 hown hgr hz
           clear hz
           have HW7 := hide (HW6.out.grown hgr HW6.out.size (fun j hj => (own_lt O6.out j hj).1))
           have R7 := hide (Rbb.both hl1 hl2 hvl HXX.out HYY.out (Rd.of_own hown) HW7.out)
           clear hown hgr)
        | (go_at_call_of 17 (Value.slice A7 (n1 + n2) c7); refine (SB.out _ _ _ R7.out).mono ?_; rintro r w8 ⟨A8, n8, c8, rfl, hr8, _, hb8⟩
           have HW8 := hide (Below.then_ HW7.out hb8)
           obtain rfl : n8 = n3 + m := by rw [← hr8.len, List.length_append, HL.out, HM2.out]
           have R8 := hide hr8
           clear hr8 hb8)
        | ((with_reducible show wpList _ _ _ (⟨some 93, _, _, _, _, _⟩ :: _) _ _)
           have NIL := nil_row w8 34
           refine wpList_app rfl (.tmp 91) (.tmp 92) 25 rfl w8.heap.size 34 (.slice none 0 0) 1 24 Try.underlying25 info34 rfl (by omega) _ _ 0 [] rfl NIL _ n1 _ vs rfl ((HV.out.below HW8.out).alloc _) (slices_one HV.out HXX.out hl1) (by unfold maxLen; omega) (by omega) (by simp) ?_
           intro A9 c9 w9 hown hgr hz
           clear hz
           rw [List.nil_append, Nat.zero_add] at hown
           rw [Nat.zero_add]
           have HV9 := hide ((Below.al (Below.refl w8.heap.size w8) (.cells #[] 34)).grown hgr (by simp) (fun j hj => (own_lt NIL j hj).1))
           have O9 := hide hown
           clear hown hgr NIL)
        | ((with_reducible show wpList _ _ _ (⟨some 95, _, _, _, _, _⟩ :: _) _ _)
           refine wpList_app rfl (.tmp 93) (.tmp 94) 25 rfl w8.heap.size 34 (.slice none 0 0) 1 24 Try.underlying25 info34 rfl (by omega) _ _ n1 vs rfl O9.out _ n1 _ vs rfl ((HV.out.below HW8.out).below HV9.out) (slices_one HV.out HXX.out hl1) (by unfold maxLen; omega) (by omega) HV9.out.size ?_
           intro Aa ca wa hown hgr hz
           clear hz
           have HVa := hide (HV9.out.grown hgr HV9.out.size (fun j hj => (own_lt O9.out j hj).1))
           have HWa := hide (Below.then_ HW8.out HVa.out)
           have Ra := hide (Rbb.both hl1 hl1 hvl HXX.out HXX.out (Rd.of_own hown) HWa.out)
           clear hown hgr)
        | (go_at_call_of 17 (Value.slice Aa (n1 + n1) ca); refine (SD.out _ _ _ Ra.out).mono ?_; rintro r wb ⟨Ab, nb, cb, rfl, hrb, _, hbb⟩
           have HWb := hide (Below.then_ HWa.out hbb)
           obtain rfl : nb = n3 := by rw [← hrb.len]; exact HL.out
           have R8b := hide ((R8.out.below HVa.out).below hbb)
           have Rb' := hide hrb
           clear hrb hbb)
        | ((with_reducible show wpList _ _ _ (⟨some 111, _, _, _, _, _⟩ :: _) _ _)
           have NIL := nil_row wb 9
           refine wpList_app_w rfl (.tmp 109) (.tmp 110) 22 rfl wb.heap.size 9 (.string ⟨#[]⟩) 1 16 Try.underlying22 info9 rfl (by omega) _ _ 0 [] rfl NIL _ nb _ (st8 L) rfl (Rd.alloc (H.out.below (Below.then_ HB4.out HWb.out)) _) (st8_one _) (by unfold maxLen; omega) (by omega) (by simp) ?_
           intro Ac cc wc hown hgr
           rw [List.nil_append, Nat.zero_add] at hown
           rw [Nat.zero_add]
           have HVc := hide ((Below.al (Below.refl wb.heap.size wb) (.cells #[] 9)).grown hgr (by simp) (fun j hj => (own_lt NIL j hj).1))
           have Oc := hide hown
           clear hown hgr NIL)
        | ((with_reducible show wpList _ _ _ (⟨some 113, _, _, _, _, _⟩ :: _) _ _)
           refine wpList_app_w rfl (.tmp 111) (.tmp 112) 22 rfl wb.heap.size 9 (.string ⟨#[]⟩) 1 16 Try.underlying22 info9 rfl (by omega) _ _ nb (st8 L) rfl Oc.out _ m _ (st8 M) rfl (H2.out.below (Below.then_ (Below.then_ HB4.out HWb.out) HVc.out)) (st8_one _) (by unfold maxLen; omega) (by omega) HVc.out.size ?_
           intro Ad cd wd hown hgr
           have HVd := hide (HVc.out.grown hgr HVc.out.size (fun j hj => (own_lt Oc.out j hj).1))
           rw [← st8_append] at hown
           have Rd' := hide (Rs.of_own hown)
           have HBd := hide (Below.then_ (Below.then_ HB4.out HWb.out) HVd.out)
           have Rbd := hide (Rb'.out.below HVd.out)
           have R8d := hide (R8b.out.below HVd.out)
           clear hown hgr)
        | (go_at_call_of 16 (Value.slice A8 (nb + m) c8); refine (SE.out _ _ _ _ _ R8d.out Rd'.out).mono ?_; rintro r we ⟨rfl, hbe⟩
           have HBe := hide (Below.then_ HBd.out hbe)
           have Rbe := hide (Rbd.out.below hbe)
           clear hbe)
        | (go_at_call_of 16 (Value.slice Ab nb cb); refine (SA.out _ _ _ Rbe.out (H.out.below HBe.out)).mono ?_; rintro r wf ⟨rfl, hbf⟩
           have HBf := hide (Below.then_ HBe.out hbf)
           clear hbf)
        | (go_at_call 8; refine (awake_any _).mono ?_; rintro r wg ⟨rfl, hbg⟩))
      go_ret
      exact ⟨rfl, Below.then_ HBf.out hbg⟩
    · have d2 : ((packE (1 + (e : Int)) (p : Int) M) != 0) = true := by rw [bne_iff_ne]; exact hE2
      obtain ⟨E2, hE⟩ : ∃ E, packE (1 + (e : Int)) (p : Int) M = E := ⟨_, rfl⟩
      rw [hE] at d2 Q1
      clear hE2 hE
      have hd : decide (n < p) = false := by have := HPL.out; simp; omega
      go_enter Try.func6, Try.ntmps6
      go_wp2_with (first
        | (go_at_call_of 7 (Value.slice A n c); refine L1.out.mono ?_; rintro r w1 ⟨rfl, rfl⟩)
        | (go_at_call_of 7 (Value.slice B m d); refine L2.out.mono ?_; rintro r w1 ⟨rfl, rfl⟩)
        | (go_at_call_of 9 (Value.slice A n c); refine (P1.out _ H.out).mono ?_; rintro r w1 ⟨A1, n1, c1, rfl, ho1, hb1⟩
           have R1 := hide ho1.rbb
           obtain rfl : n1 = p := by rw [← ho1.1]; exact HXL.out
           have HB1 := hide hb1
           clear ho1 hb1)
        | (go_at_call_of 9 (Value.slice B m d); refine (Q1.out _ (H2.out.below HB1.out)).mono ?_; rintro r w2 ⟨A2, n2, c2, rfl, ho2, hb2⟩
           have R12 := hide (R1.out.below hb2)
           have HB2 := hide (Below.then_ HB1.out hb2)
           clear ho2 hb2)
        | (go_at_call 17; refine (SC.out _ _ _ R12.out).mono ?_; rintro r w3 ⟨A3, n3, c3, rfl, hr3, _, hb3⟩
           have HB3 := hide (Below.then_ HB2.out hb3)
           obtain rfl : n3 = n := by rw [← hr3.len]; exact HL.out
           have R3 := hide hr3
           clear hr3 hb3)
        | (go_at_call 16; refine (SA.out _ _ _ R3.out (H.out.below HB3.out)).mono ?_; rintro r w4 ⟨rfl, hb4⟩
           have HB4 := hide (Below.then_ HB3.out hb4)
           clear hb4)
        | (go_at_call 12; refine (PP.out _ (H.out.below HB4.out)).mono ?_; rintro r w5 ⟨rfl, rfl⟩)
        | (go_at_call 8; refine (awake_any _).mono ?_; rintro r w6 ⟨rfl, hb6⟩))
      go_ret
      exact ⟨rfl, Below.then_ HB4.out hb6⟩
  · have d1 : ((packE (1 + (e : Int)) 0 L) != 0) = true := by rw [bne_iff_ne]; exact h0
    obtain ⟨E1, hE⟩ : ∃ E, packE (1 + (e : Int)) 0 L = E := ⟨_, rfl⟩
    rw [hE] at d1 P1
    clear h0 hE hpl hpn
    go_enter Try.func6, Try.ntmps6
    go_wp2_with (first
      | (go_at_call_of 7 (Value.slice A n c); refine L1.out.mono ?_; rintro r w1 ⟨rfl, rfl⟩)
      | (go_at_call_of 7 (Value.slice B m d); refine L2.out.mono ?_; rintro r w1 ⟨rfl, rfl⟩)
      | (go_at_call 9; refine (P1.out _ H.out).mono ?_; rintro r w1 ⟨A1, n1, c1, rfl, ho1, hb1⟩)
      | (go_at_call 8; refine (awake_any _).mono ?_; rintro r w6 ⟨rfl, hb6⟩))
    go_ret
    exact ⟨rfl, Below.then_ hb1 hb6⟩
theorem back_any (e : Int) (he : 0 ≤ e ∧ e ≤ 4294967295) (A B : Option Addr) (n c m d : Nat) (L M : List Tx) (w : World) (hnc : n ≤ c) (hmd : m ≤ d) (h : Rs w A n L) (h' : Rs w B m M) :
    Calls Try.prog 6 #[.int .u32 e, .slice A n c, .slice B m d] w fun r w' => r = .returned (.bool true) ∧ Below w.heap.size w w' := by
  by_cases hl : lightB L 30 = true ∧ lightB M 30 = true
  · obtain ⟨k, rfl⟩ : ∃ k : Nat, e = k := ⟨e.toNat, by omega⟩
    exact back_in k (by omega) A B n c m d L M w hnc hmd h h' hl.1 hl.2
  · exact back_light e A B n c m d L M w h h' hl
end Go.Proofs.Ytmdhckcoinhfpaa

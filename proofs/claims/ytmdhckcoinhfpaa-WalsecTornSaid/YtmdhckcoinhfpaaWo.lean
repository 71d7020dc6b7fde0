/- The walk of the law WalsecTorn: over two logs that were packed. -/
import Derived.Test.YtmdhckcoinhfpaaLens
import Derived.Outline
import Derived.Test.YtmdhckcoinhfpaaStep
namespace Go.Proofs.Ytmdhckcoinhfpaa
open Go.RowKit

theorem rdb {w : World} {A : Option Addr} {n : Nat} {l : List UInt8} (h : Rb w A n l) : Rd w A n 1 (by8 l) := h
theorem nil_own (w : World) : (w.alloc (.cells #[] 5)).ownsRow w.heap.size 5 1 (.slice (some ⟨w.heap.size, 0, none⟩) 0 0) 0 (by8 []) :=
  (Vk.new w 5 (by8 [])).own (Nat.le_refl _) rfl (Nat.zero_le _)

/-- The elder log in the walk: a row of the call's own, apart from the newer one's blocks, which stand. -/
def TornSt (w w2 wr : World) (H1 : Nat) (O : Option Addr) (c k : Nat) (XX : List (List UInt8)) : Prop :=
  Wbb wr w.heap.size O c k XX ∧ (∀ g, (Value.slice O k c).ownBlock = some g → g < H1 ∨ w2.heap.size ≤ g) ∧ (∀ b, H1 ≤ b → b < w2.heap.size → wr.heap[b]? = w2.heap[b]?) ∧ Below w.heap.size w wr ∧ w2.heap.size ≤ wr.heap.size
theorem TornSt.below {w w2 wr w' : World} {H1 : Nat} {O : Option Addr} {c k : Nat} {XX : List (List UInt8)} (h : TornSt w w2 wr H1 O c k XX) (hb : Below wr.heap.size wr w') : TornSt w w2 w' H1 O c k XX := by
  obtain ⟨h1, h2, h3, h4, h5⟩ := h
  exact ⟨h1.below hb, h2, fun b hb1 hb2 => (hb.block b (by omega)).trans (h3 b hb1 hb2), Below.then_ h4 hb, Nat.le_trans h5 hb.size⟩
/-- Behind an append of one slice of the call's own. -/
theorem TornSt.push {w w2 wr w' : World} {H1 : Nat} {O O' : Option Addr} {c c' k : Nat} {XX : List (List UInt8)} {l : List UInt8} (h : TornSt w w2 wr H1 O c k XX) {vs : List Value} (ho : wr.ownsRow w.heap.size 34 1 (.slice O k c) k vs)
    (hi : ∀ (i : Nat) (l : List UInt8), XX[i]? = some l → ∃ Ai ni ci eB, (eB = 5 ∨ eB = 54) ∧ vs[i]? = some (Value.slice Ai ni ci) ∧ wr.ownsRow w.heap.size eB 1 (.slice Ai ni ci) ni (by8 l))
    {Ab : Option Addr} {nb cb : Nat} (hb : wr.ownsRow w.heap.size 5 1 (.slice Ab nb cb) nb (by8 l)) (ho' : w'.ownsRow w.heap.size 34 1 (.slice O' (k + 1) c') (k + 1) (vs ++ [.slice Ab nb cb])) (hg : wr.grownBy w' (Value.slice O k c).ownBlock)
    (hwh : (Value.slice O' (k + 1) c').ownBlock = (Value.slice O k c).ownBlock ∨ (Value.slice O' (k + 1) c').ownBlock = some wr.heap.size) : TornSt w w2 w' H1 O' c' (k + 1) (XX ++ [l]) := by
  obtain ⟨h1, h2, h3, h4, h5⟩ := h
  refine ⟨Wbb.push h1.1 ho hi (.inl rfl) hb ho' hg, fun g hgq => ?_, fun b hb1 hb2 => ?_, h4.grown hg h4.size (fun j hj => (own_lt ho j hj).1), Nat.le_trans h5 hg.size⟩
  · rcases hwh with e | e
    · exact h2 g (e.symm.trans hgq)
    · rw [e] at hgq
      injection hgq with hgq
      right; omega
  · rw [← h3 b hb1 hb2]
    exact hg.block b (by omega) (fun e => by rcases h2 b e.symm with hh | hh <;> omega)
/-- Behind a store of a slice of the call's own. -/
theorem TornSt.put {w w2 wr : World} {H1 g : Nat} {c k : Nat} {XX : List (List UInt8)} {l : List UInt8} (h : TornSt w w2 wr H1 (some ⟨g, 0, none⟩) c k XX) {Ab : Option Addr} {nb cb : Nat} (hb : wr.ownsRow w.heap.size 5 1 (.slice Ab nb cb) nb (by8 l)) (hg : w.heap.size ≤ g) (i : Nat) :
    TornSt w w2 (wr.setCell ⟨g, i, none⟩ (.slice Ab nb cb)) H1 (some ⟨g, 0, none⟩) c k (XX.set i l) := by
  obtain ⟨h1, h2, h3, h4, h5⟩ := h
  refine ⟨h1.set_ (.inl rfl) hb i, h2, fun b hb1 hb2 => ?_, h4.setCell hg _, by simpa [World.setCell] using h5⟩
  rw [← h3 b hb1 hb2]
  exact Below.heap_setCell wr ⟨g, i, none⟩ _ b (fun e => by
    have := h2 g rfl
    have e' : b = g := e
    omega)
/-- The elder log's cells, where it stands. -/
theorem TornSt.at_ {w w2 wr : World} {H1 g : Nat} {c k : Nat} {XX : List (List UInt8)} (h : TornSt w w2 wr H1 (some ⟨g, 0, none⟩) c k XX) {j : Nat} (hj : j < k) :
    (∃ v, wr.cell? ⟨g, j, none⟩ = some v) ∧ wr.frozen? ⟨g, j, none⟩ = false := by
  obtain ⟨_, vs, hv, _⟩ := h.1
  have e := hv.cellAt j (by omega)
  have e2 := hv.frozenAt j
  obtain ⟨gx, capx, hvx, _, _⟩ := hv.form (by omega)
  injection hvx with a1 _ _
  injection a1 with a1
  injection a1 with a1
  subst a1
  have hl : vs.length = k := by simpa using hv.1
  rw [List.getElem?_eq_getElem (by omega)] at e
  exact ⟨⟨_, e⟩, e2⟩
theorem min2 {P : Program} (x y M : Nat) (h : min x y = M) (w : World) : (Builtin.min_ #[3, 3] 3 #[.int .i64 (x : Int), .int .i64 (y : Int)]).run P w = .ok (.int .i64 (M : Int)) w := by
  have h2 : (if (x : Int) < (y : Int) then (x : Int) else y) = (M : Int) := by split <;> omega
  first
    | (rw [run_min_int2, h2])
    | (rw [run_min_int2]; have h3 : (if (y : Int) < (x : Int) then (y : Int) else x) = (M : Int) := by split <;> omega
       rw [h3])
theorem slice25 : Try.prog.underlying 25 = some (.slice 34) := Try.underlying25
theorem Rbb.hi_ {w : World} {A : Option Addr} {n : Nat} {L : List (List UInt8)} (h : Rbb w A n L) (j c : Nat) (h2 : j ≤ n) (h3 : n ≤ c) : Rbb w (cutA A c 0) j (L.take j) := by
  obtain ⟨hl, vs, hr, hx⟩ := h
  have hr2 := Rd.upto hr j c h2 h3
  simp only [Nat.mul_one, Nat.sub_zero] at hr2
  refine ⟨by rw [List.length_take]; omega, vs.take j, hr2, fun i l hi => ?_⟩
  have hij : i < j := by
    have := (List.getElem?_eq_some_iff.1 hi).1
    rw [List.length_take] at this
    omega
  rw [List.getElem?_take_of_lt hij] at hi
  obtain ⟨Ai, ni, ci, e1, e2⟩ := hx i l hi
  exact ⟨Ai, ni, ci, by rw [List.getElem?_take_of_lt hij]; exact e1, e2⟩
set_option maxRecDepth 100000 in
set_option maxHeartbeats 16000000 in
theorem torn_in (A B C : Option Addr) (n c m d nf cf : Nat) (L M : List Tx) (F : List UInt8) (w : World) (hnc : n ≤ c) (hmd : m ≤ d) (h : Rs w A n L) (h' : Rs w B m M) (hF : Rd w C nf 2 (by8 F)) (hl : lightB L 30 = true) (hm : lightB M 30 = true) (hf : nf ≤ 40) (he1 : packE 7 0 L = 0) (he2 : packE 8 0 M = 0) :
    Calls Try.prog 5 #[.slice A n c, .slice B m d, .slice C nf cf] w fun r w' => r = .returned (.bool true) ∧ Below w.heap.size w w' := by
  have L1 := hide (light_any A n c 30 L w (by omega) h)
  have L2 := hide (light_any B m d 30 M w (by omega) h')
  rw [hl] at L1
  rw [hm] at L2
  have H := hide h
  have H2 := hide h'
  have HF := hide hF
  have hn30 : n ≤ 30 := by have := lightB_len hl; have := h.len; omega
  have hm30 : m ≤ 30 := by have := lightB_len hm; have := h'.len; omega
  have d3 : decide (40 < (nf : Int)) = false := by simp; omega
  have P1 := hide (fun w h => pack_any 7 0 A n c L w (by omega) hnc h (by omega))
  have P2 := hide (fun w h => pack_any 8 0 B m d M w (by omega) hmd h (by omega))
  unfold PackPost at P1 P2
  have hxl : (packL 7 0 L).length = parts L := by rw [(pack_yes he1).2.2.2.2.2, packK_length]
  have hyl : (packL 8 0 M).length = parts M := by rw [(pack_yes he2).2.2.2.2.2, packK_length]
  have hpx : parts L ≤ 30 := by have := parts_le L; have := h.len; omega
  have hpy : parts M ≤ 30 := by have := parts_le M; have := h'.len; omega
  obtain ⟨X, hX⟩ : ∃ X, packL 7 0 L = X := ⟨_, rfl⟩
  obtain ⟨Y, hY⟩ : ∃ Y, packL 8 0 M = Y := ⟨_, rfl⟩
  rw [he1, hX] at P1
  rw [he2, hY] at P2
  rw [hX] at hxl
  rw [hY] at hyl
  obtain ⟨px, hpx2⟩ : ∃ p, parts L = p := ⟨_, rfl⟩
  obtain ⟨py, hpy2⟩ : ∃ p, parts M = p := ⟨_, rfl⟩
  rw [hpx2] at hxl hpx
  rw [hpy2] at hyl hpy
  have HE1 := hide he1
  have HE2 := hide he2
  have HX := hide hX
  have HY := hide hY
  have HXL := hide hxl
  have HYL := hide hyl
  have HPX := hide hpx2
  have HPY := hide hpy2
  obtain ⟨i0, hi0, hz0, hz1, hz2⟩ := info_parts info5
  clear h h' hF hl hm he1 he2 hX hY hxl hyl hpx2 hpy2
  go_enter Try.func5, Try.ntmps5
  go_wp2_with (first
    | (go_at_call_of 7 (Value.slice A n c); refine L1.out.mono ?_; rintro r w1 ⟨rfl, rfl⟩)
    | (go_at_call_of 7 (Value.slice B m d); refine L2.out.mono ?_; rintro r w1 ⟨rfl, rfl⟩)
    | (go_at_call_of 9 (Value.slice A n c); refine (P1.out _ H.out).mono ?_; rintro r w1 ⟨A1, n1, c1, rfl, ho1, hb1⟩
       obtain rfl : n1 = px := by rw [← ho1.1]; exact HXL.out
       have O1 := hide ho1
       have HB1 := hide hb1
       clear ho1 hb1)
    | (go_at_call_of 9 (Value.slice B m d); refine (P2.out _ (H2.out.below HB1.out)).mono ?_; rintro r w2 ⟨A2, n2, c2, rfl, ho2, hb2⟩
       obtain rfl : n2 = py := by rw [← ho2.1]; exact HYL.out
       have O2 := hide ho2
       have HB2 := hide hb2
       clear ho2 hb2))
  go_loopw [7] (fun x wr => ∃ (k c : Nat) (O : Option Addr), n1 ≤ k ∧ k ≤ max n1 n2 ∧ x = .slice O k c ∧ TornSt w w2 wr w1.heap.size O c k (longX X k)) (fun x _ => n2 - (match x with | .slice _ m _ => m | _ => 0))
  case atStart => exact ⟨n1, c1, A1, Nat.le_refl _, by omega, rfl, by
    have e0 : longX X n1 = X := by rw [← HXL.out]; exact longX_start X
    rw [e0]
    refine ⟨(Wbb.of_obb O1.out).below HB2.out, fun g hg => ?_, fun b _ _ => rfl, Below.then_ HB1.out HB2.out, Nat.le_refl _⟩
    obtain ⟨_, vs, ho, _⟩ := O1.out
    exact .inl (own_lt ho g hg).2⟩
  case round =>
    obtain ⟨k, co, O, hk1, hk2, rfl, hst⟩ := hrel
    have ST := hide hst
    clear hst
    by_cases hlt : k < n2
    · have hk63 := hide (show k + 1 ≤ maxLen by unfold maxLen; omega)
      have hkb := hide (show (k + 1) * 24 ≤ 140737488355328 by omega)
      have HLX := hide (longX_succ X k (by rw [HXL.out]; exact hk1))
      go_wp2_with (first
        | (at_make
           refine wpList_make_full _ rfl (.const (.int .i64 256)) (.const (.int .i64 256)) 34 rfl wr.heap.size 5 i0 (.int .u8 0) 1 Try.underlying34 hi0 hz0 hz1 .i64 .i64 _ _ 256 rfl rfl rfl rfl (by rw [hz2]; omega) (by unfold maxLen; omega) (Nat.le_refl _) ?_
           intro w6 hown hgr
           rw [made_by8] at hown
           have O6 := hide hown
           have HW6 := hide ((Below.refl _ _).grown hgr (Nat.le_refl _) (by simp) : Below wr.heap.size wr w6)
           clear hown hgr)
        | ((with_reducible show wpList _ _ _ (⟨some 58, _, _, _, _, _⟩ :: _) _ _)
           have HWA := Below.al HW6.out (.cells #[.slice (some ⟨wr.heap.size, 0, none⟩) 256 256] 34)
           have S7 := ST.out.below HWA
           obtain ⟨hl, vs, ho, hi⟩ := S7.1
           have N8 := own_mono (O6.out.alloc (.cells #[.slice (some ⟨wr.heap.size, 0, none⟩) 256 256] 34)) ST.out.2.2.2.1.size
           refine wpList_app rfl (.tmp 55) (.tmp 57) 25 rfl w.heap.size 34 (.slice none 0 0) 1 24 Try.underlying25 info34 rfl (by omega) _ _ k vs rfl ho _ 1 _ [.slice (some ⟨wr.heap.size, 0, none⟩) 256 256] rfl ((Vk.new w6 34 [.slice (some ⟨wr.heap.size, 0, none⟩) 256 256]).rd 1 1 rfl) (by simp [Value.oneCell']) hk63.out hkb.out S7.2.2.2.1.size ?_
           intro A9 c9 w9 hown hgr hz
           have S9 := hide (S7.push ho hi N8 hown hgr hz)
           clear hz hown hgr ho hi hl N8 S7 HWA))
      go_roundw
      case rel => exact ⟨k + 1, c9, A9, by omega, by omega, rfl, by rw [HLX.out]; exact S9.out⟩
      case measure => simp; omega
    · obtain ⟨wo, rfl⟩ : ∃ wo : World, wo = wr := ⟨_, rfl⟩
      obtain ⟨X0, hX0⟩ : ∃ X0, longX X k = X0 := ⟨_, rfl⟩
      have HX0 := hide hX0
      have ELD := hide (show ∀ j, j < k → elder X0 j from fun j hj => by rw [← HX0.out, ← HX.out]; exact elder_long HE1.out (by rw [HPX.out]; exact hk1) (by omega) hj)
      have YLN := hide (show ∀ j, j < n2 → (nthB Y j).length = 256 from fun j hj => by rw [← HY.out]; exact newer_len HE2.out (by rw [HPY.out]; exact hj))
      have HX0L := hide (show X0.length = k by rw [← hX0]; exact longX_length X k (by rw [HXL.out]; exact hk1))
      rw [hX0] at ST
      obtain ⟨T, hT⟩ : ∃ T : Nat → List UInt8, T = fun i => (nthB Y i).take (keepK F nf i) ++ (nthB X0 i).drop (keepK F nf i) := ⟨_, rfl⟩
      have HT := hide (show ∀ i, T i = (nthB Y i).take (keepK F nf i) ++ (nthB X0 i).drop (keepK F nf i) by rw [hT]; exact fun _ => rfl)
      clear hX0 hT
      go_wp2_with fail
      go_loopw [11, 12, 13, 14] (fun wh i _ _ wr => ∃ j : Nat, j ≤ n2 ∧ i = .int .i64 j ∧ wh = .int .i64 (whK T (nthB Y) n2 j : Nat) ∧ TornSt w w2 wr w1.heap.size O co k (curK T X0 j)) (fun _ i _ _ _ => n2 - (intOf i).toNat)
      case atStart => exact ⟨0, Nat.zero_le _, rfl, rfl, by rw [curK_zero]; exact ST.out⟩
      case round =>
        obtain ⟨j, hj, rfl, rfl, hst⟩ := hrel
        have SJ := hide hst
        clear hst
        by_cases hjn : j < n2
        · have hOb := O2.out.stay SJ.out.2.2.1
          obtain ⟨hl2, us, hu, hy⟩ := hOb
          obtain ⟨hl1, vs, hv, hx⟩ := SJ.out.1
          have hYj : Y[j]? = some (nthB Y j) := by simp [nthB, List.getD, show j < Y.length by rw [HYL.out]; exact hjn]
          have hXj : (curK T X0 j)[j]? = some (nthB X0 j) := by
            have h1 : j < (curK T X0 j).length := by rw [curK_length, HX0L.out]; omega
            have h2 := curK_at T X0 j j (by rw [HX0L.out]; omega)
            rw [if_neg (by omega)] at h2
            rw [← h2]
            simp [nthB, List.getD, h1]
          obtain ⟨Ay, ny, qy, hy1, hy2⟩ := hy j _ hYj
          obtain ⟨Ax, nx, qx, eB, heB, hx1, hx2⟩ := hx j _ hXj
          obtain ⟨gy, capy, hvy, _, hgy⟩ := hu.form (by omega)
          injection hvy with a1 a2 a3
          subst a1
          obtain ⟨gx, capx, hvx, hgx0, hgx⟩ := hv.form (by omega)
          injection hvx with b1 b2 b3
          subst b1
          clear a2 a3 b2 b3
          have cy : wr.cell? ⟨gy, j, none⟩ = some (.slice Ay ny qy) := by rw [hu.cellAt j (by omega), hy1]
          have cx : wr.cell? ⟨gx, j, none⟩ = some (.slice Ax nx qx) := by rw [hv.cellAt j (by omega), hx1]
          have fx := hv.frozenAt j
          have y1 := ELD.out j (by omega)
          have y2 := YLN.out j hjn
          have y3 : 256 = ny := by have := (Rb.of_own hy2).1; rw [by8_length, y2] at this; omega
          have y4 : 256 = nx := by have := (Rb.of_own hx2).1; rw [by8_length, y1.1] at this; omega
          obtain ⟨K, hK⟩ : ∃ K, keepK F nf j = K := ⟨_, rfl⟩
          have hK256 : K ≤ 256 := by rw [← hK]; exact keepK_le F nf j
          have HK := hide hK
          have RY := hide (Rb.of_own hy2)
          have RX := hide (Rb.of_own hx2)
          have QY := hide (own_cap hy2)
          have QX := hide (own_cap hx2)
          subst y3; subst y4
          obtain ⟨K1, hK1⟩ : ∃ K1, (if j < nf ∧ (F.getD (j * 2) 0).toNat % 3 = 0 then 0 else 256) = K1 := ⟨_, rfl⟩
          have HK1 := hide hK1
          have hfc := hide (show j < nf → ∃ bC oC, C = some ⟨bC, oC, none⟩ ∧ wr.cell? ⟨bC, oC + j * 2, none⟩ = some (.int .u8 ((F.getD (j * 2) 0).toNat : Int)) ∧ wr.cell? ⟨bC, oC + j * 2 + 1, none⟩ = some (.int .u8 ((F.getD (j * 2 + 1) 0).toNat : Int)) from fun hjf => by
            have hFl : F.length = nf * 2 := by have := HF.out.1; rw [by8_length] at this; exact this
            obtain ⟨bC, oC, rfl, hbC, hcC⟩ := HF.out.at_ (by rw [by8_length]; omega)
            refine ⟨bC, oC, rfl, ?_, ?_⟩
            · rw [SJ.out.2.2.2.1.cell (p := ⟨bC, oC + j * 2, none⟩) hbC]
              exact hcC (j * 2) _ (by8_get F _ (by omega))
            · rw [SJ.out.2.2.2.1.cell (p := ⟨bC, oC + j * 2 + 1, none⟩) hbC, Nat.add_assoc]
              exact hcC (j * 2 + 1) _ (by8_get F _ (by omega)))
          have GX := hide (own_lt hv gx rfl)
          have jk : (j : Int) < (k : Int) := by omega
          have jk2 : (j : Int) < (n2 : Int) := by omega
          have j0 : (0 : Int) ≤ (j : Int) := by omega
          have GY := hide (own_lt hu gy rfl)
          have Y1 := hide y1
          have Y2 := hide y2
          clear hu hv hx hy hx1 hx2 hy1 hy2 hYj hXj hK hK1 hl1 hl2 y1 y2
          by_cases hjf : j < nf
          · obtain ⟨bC, oC, hC, hc1, hc2⟩ := hfc.out hjf
            subst hC
            obtain ⟨fk, hfk⟩ : ∃ y : UInt8, F.getD (j * 2) 0 = y := ⟨_, rfl⟩
            obtain ⟨fc, hfcut⟩ : ∃ y : UInt8, F.getD (j * 2 + 1) 0 = y := ⟨_, rfl⟩
            rw [hfk] at hc1
            rw [hfcut] at hc2
            have dj : decide ((j : Int) < (nf : Int)) = true := by simp; omega
            have hfk2 := fk.toNat_lt
            have hfc2 := fc.toNat_lt
            have HF1 := hide hfk
            have HF2 := hide hfcut
            clear hfk hfcut
            by_cases h0 : fk.toNat % 3 = 0
            · have d0 : ((fk.toNat : Int) % 3 == 0) = true := by rw [beq_iff_eq]; omega
              have d2 : ((fk.toNat : Int) % 3 == 2) = false := by rw [beq_eq_false_iff_ne]; omega
              go_wp2_with (fail)
              clear hc1 hc2
              have HKV := hide (show (0 : Int) = (K : Int) by have := HK.out; unfold keepK at this; rw [HF1.out, if_neg (by omega), if_pos ⟨hjf, h0⟩] at this; omega)
              have sy := run_hi slice34 size5 Ay 256 qy K (0) HKV.out (by have := QY.out; omega)
              have sx := run_lo slice34 size5 Ax 256 qx K (0) HKV.out (by omega)
              have RY1 := hide (RY.out.hi_ K qy (by omega) QY.out.1)
              have RX1 := hide (RX.out.lo_ K qx (by omega) QX.out.1)
              obtain ⟨P1, hP1⟩ : ∃ P, cutA Ay qy 0 = P := ⟨_, rfl⟩
              obtain ⟨P2, hP2⟩ : ∃ P, cutA Ax qx K = P := ⟨_, rfl⟩
              rw [hP1] at sy RY1
              rw [hP2] at sx RX1
              clear hP1 hP2
              have N0 := hide (show (wr.alloc (.cells #[] 5)).drew.ownsRow wr.heap.size 5 1 (.slice (some ⟨wr.heap.size, 0, none⟩) 0 0) 0 [] from nil_own wr)
              have N1 := hide (show Rd (wr.alloc (.cells #[] 5)).drew P1 K 1 (by8 ((nthB Y j).take K)) from rdb (RY1.out.alloc _))
              have N2 := hide (show wr.heap.size ≤ (wr.alloc (.cells #[] 5)).drew.heap.size by simp)
              have N3 := hide (show Below wr.heap.size wr (wr.alloc (.cells #[] 5)).drew from (Below.al (Below.refl _ _) _).drew)
              go_region_held3 (fun z => z.cell? ⟨gx, j, none⟩ = some (.slice Ax 256 qx) ∧ z.cell? ⟨gy, j, none⟩ = some (.slice Ay 256 qy)) (first | go_keep | exact ⟨(HB3.out.cell (p := ⟨gx, j, none⟩) GX.out.2).trans cx, (HB3.out.cell (p := ⟨gy, j, none⟩) GY.out.2).trans cy⟩ | exact ⟨(HB2.out.cell (p := ⟨gx, j, none⟩) GX.out.2).trans cx, (HB2.out.cell (p := ⟨gy, j, none⟩) GY.out.2).trans cy⟩)
                (first
                  | (refine step_app rfl (.tmp 113) (.tmp 119) 34 rfl wr.heap.size 5 (.int .u8 0) 1 1 Try.underlying34 info5 rfl (by omega) (some ⟨wr.heap.size, 0, none⟩) 0 0 [] rfl ?_ P1 K qy (by8 ((nthB Y j).take K)) rfl ?_ (by8_one _) ?_ ?_ ?_ ?_
                     · exact N0.out
                     · exact N1.out
                     · unfold maxLen; omega
                     · omega
                     · exact N2.out
                     intro A2 c2' w2' hown hgr hz
                     clear hz
                     have hb2 : Below wr.heap.size wr w2' := N3.out.grown hgr N2.out (fun j hj => (own_lt N0.out j hj).1)
                     rw [List.nil_append, Nat.zero_add] at hown
                     rw [Nat.zero_add]
                     have O2' := hide hown
                     have HB2 := hide hb2
                     clear hown hgr hb2)
                  | (refine step_app rfl (.tmp 120) (.tmp 126) 34 rfl wr.heap.size 5 (.int .u8 0) 1 1 Try.underlying34 info5 rfl (by omega) A2 c2' K (by8 ((nthB Y j).take K)) rfl ?_ P2 (256 - K) (qx - K) (by8 ((nthB X0 j).drop K)) rfl ?_ (by8_one _) ?_ ?_ ?_ ?_
                     · exact O2'.out
                     · exact rdb (RX1.out.below HB2.out)
                     · unfold maxLen; omega
                     · omega
                     · exact HB2.out.size
                     intro A3 c3 w3 hown hgr hz
                     clear hz
                     have hb3 : Below wr.heap.size wr w3 := HB2.out.grown hgr HB2.out.size (fun j hj => (own_lt O2'.out j hj).1)
                     rw [← by8_append, show K + (256 - K) = 256 by omega] at hown
                     rw [show K + (256 - K) = 256 by omega]
                     have O3 := hide hown
                     have HB3 := hide hb3
                     clear hown hgr hb3))
              obtain ⟨Tj, hTj⟩ : ∃ q, (nthB Y j).take K ++ (nthB X0 j).drop K = q := ⟨_, rfl⟩
              have HTJ := hide (show T j = Tj by rw [HT.out, HK.out, hTj])
              rw [hTj] at O3
              have RT3 := Rb.of_own O3.out
              have RY3 := RY.out.below HB3.out
              obtain ⟨Yj, hYj⟩ : ∃ q, nthB Y j = q := ⟨_, rfl⟩
              rw [hYj] at RY3
              have S3 := hide (SJ.out.below HB3.out)
              have O4 := hide (own_mono O3.out SJ.out.2.2.2.1.size)
              have cx3 : w3.cell? ⟨gx, j, none⟩ = some (.slice Ax 256 qx) := (HB3.out.cell (p := ⟨gx, j, none⟩) GX.out.2).trans cx
              have cy3 : w3.cell? ⟨gy, j, none⟩ = some (.slice Ay 256 qy) := (HB3.out.cell (p := ⟨gy, j, none⟩) GY.out.2).trans cy
              have HYJ := hide hYj
              obtain ⟨W, hW⟩ : ∃ q, whK T (nthB Y) n2 j = q := ⟨_, rfl⟩
              rw [hW]
              have HW := hide hW
              have k1 := fun nq => conv_bytes (P := Try.prog) 34 5 9 Try.underlying34 Try.underlying5 Try.underlying9 c3 (show Rb (w3.drewN nq) _ _ _ from RT3)
              have k2 := fun nq => conv_bytes (P := Try.prog) 34 5 9 Try.underlying34 Try.underlying5 Try.underlying9 qy (show Rb (w3.drewN nq) _ _ _ from RY3)
              clear hTj hYj RT3 RY3 cx cy hW sy sx
              go_upto_region 21 with (fail)
              obtain ⟨q, hq⟩ : ∃ q, (!(Tj == Yj)) = q := ⟨_, rfl⟩
              have HQ := hide hq
              go_cut [135] (fun t wx => t = .bool q ∧ TornSt w w2 wx w1.heap.size (some ⟨gx, 0, none⟩) co k (curK T X0 j) ∧ wx.ownsRow w.heap.size 5 1 (.slice A3 256 c3) 256 (by8 Tj))
              case first =>
                go_quiet (fail)
                all_goals (go_wp2_with fail; go_meet; exact ⟨rfl, S3.out.below (Below.drewN' (Below.refl _ _) _), own_below O4.out (Below.drewN' (Below.refl _ _) _)⟩)
              case rest =>
                obtain ⟨rfl, hst3, ho3⟩ := hcut
                obtain ⟨⟨vx, cx4⟩, fx4⟩ := hst3.at_ (show j < k by omega)
                have S5 := hide (hst3.put ho3 hgx0 j)
                have HB5 := hide (hst3.2.2.2.1)
                clear hst3 ho3 k1 k2 cx3 cy3 O4 S3 O3 HB3 RX RY QX QY SJ
                cases q
                · have he : Tj = Yj := by have := HQ.out; simpa using this
                  have HWN := hide (show whK T (nthB Y) n2 (j + 1) = W by rw [← HW.out]; show (if T j = nthB Y j then _ else _) = _; rw [if_pos (by rw [HTJ.out, HYJ.out, he])])
                  clear he hq
                  go_wp2_with fail
                  go_roundw
                  case rel => exact ⟨j + 1, by omega, by go_num, by rw [HWN.out], by rw [← curK_set, HTJ.out]; exact S5.out⟩
                  case measure => simp [intOf]; omega
                · have he : ¬ Tj = Yj := by have := HQ.out; simpa using this
                  obtain ⟨M, hM⟩ : ∃ M, min W j = M := ⟨_, rfl⟩
                  have hmn := min2 (P := Try.prog) W j M hM
                  have HWN := hide (show whK T (nthB Y) n2 (j + 1) = M by rw [← hM, ← HW.out]; show (if T j = nthB Y j then _ else _) = _; rw [if_neg (by rw [HTJ.out, HYJ.out]; exact he)])
                  clear he hM hq
                  go_wp2_with fail
                  go_roundw
                  case rel => exact ⟨j + 1, by omega, by go_num, by rw [HWN.out], by rw [← curK_set, HTJ.out]; exact S5.out⟩
                  case measure => simp [intOf]; omega
            · by_cases h2 : fk.toNat % 3 = 2
              · have d0 : ((fk.toNat : Int) % 3 == 0) = false := by rw [beq_eq_false_iff_ne]; omega
                have d2 : ((fk.toNat : Int) % 3 == 2) = true := by rw [beq_iff_eq]; omega
                go_wp2_with (fail)
                clear hc1 hc2
                have HKV := hide (show ((fc.toNat : Int) : Int) = (K : Int) by have := HK.out; unfold keepK at this; rw [HF1.out, HF2.out, if_pos ⟨hjf, h2⟩] at this; omega)
                have sy := run_hi slice34 size5 Ay 256 qy K ((fc.toNat : Int)) HKV.out (by have := QY.out; omega)
                have sx := run_lo slice34 size5 Ax 256 qx K ((fc.toNat : Int)) HKV.out (by omega)
                have RY1 := hide (RY.out.hi_ K qy (by omega) QY.out.1)
                have RX1 := hide (RX.out.lo_ K qx (by omega) QX.out.1)
                obtain ⟨P1, hP1⟩ : ∃ P, cutA Ay qy 0 = P := ⟨_, rfl⟩
                obtain ⟨P2, hP2⟩ : ∃ P, cutA Ax qx K = P := ⟨_, rfl⟩
                rw [hP1] at sy RY1
                rw [hP2] at sx RX1
                clear hP1 hP2
                have N0 := hide (show (wr.alloc (.cells #[] 5)).drew.ownsRow wr.heap.size 5 1 (.slice (some ⟨wr.heap.size, 0, none⟩) 0 0) 0 [] from nil_own wr)
                have N1 := hide (show Rd (wr.alloc (.cells #[] 5)).drew P1 K 1 (by8 ((nthB Y j).take K)) from rdb (RY1.out.alloc _))
                have N2 := hide (show wr.heap.size ≤ (wr.alloc (.cells #[] 5)).drew.heap.size by simp)
                have N3 := hide (show Below wr.heap.size wr (wr.alloc (.cells #[] 5)).drew from (Below.al (Below.refl _ _) _).drew)
                go_region_held3 (fun z => z.cell? ⟨gx, j, none⟩ = some (.slice Ax 256 qx) ∧ z.cell? ⟨gy, j, none⟩ = some (.slice Ay 256 qy)) (first | go_keep | exact ⟨(HB3.out.cell (p := ⟨gx, j, none⟩) GX.out.2).trans cx, (HB3.out.cell (p := ⟨gy, j, none⟩) GY.out.2).trans cy⟩ | exact ⟨(HB2.out.cell (p := ⟨gx, j, none⟩) GX.out.2).trans cx, (HB2.out.cell (p := ⟨gy, j, none⟩) GY.out.2).trans cy⟩)
                  (first
                    | (refine step_app rfl (.tmp 113) (.tmp 119) 34 rfl wr.heap.size 5 (.int .u8 0) 1 1 Try.underlying34 info5 rfl (by omega) (some ⟨wr.heap.size, 0, none⟩) 0 0 [] rfl ?_ P1 K qy (by8 ((nthB Y j).take K)) rfl ?_ (by8_one _) ?_ ?_ ?_ ?_
                       · exact N0.out
                       · exact N1.out
                       · unfold maxLen; omega
                       · omega
                       · exact N2.out
                       intro A2 c2' w2' hown hgr hz
                       clear hz
                       have hb2 : Below wr.heap.size wr w2' := N3.out.grown hgr N2.out (fun j hj => (own_lt N0.out j hj).1)
                       rw [List.nil_append, Nat.zero_add] at hown
                       rw [Nat.zero_add]
                       have O2' := hide hown
                       have HB2 := hide hb2
                       clear hown hgr hb2)
                    | (refine step_app rfl (.tmp 120) (.tmp 126) 34 rfl wr.heap.size 5 (.int .u8 0) 1 1 Try.underlying34 info5 rfl (by omega) A2 c2' K (by8 ((nthB Y j).take K)) rfl ?_ P2 (256 - K) (qx - K) (by8 ((nthB X0 j).drop K)) rfl ?_ (by8_one _) ?_ ?_ ?_ ?_
                       · exact O2'.out
                       · exact rdb (RX1.out.below HB2.out)
                       · unfold maxLen; omega
                       · omega
                       · exact HB2.out.size
                       intro A3 c3 w3 hown hgr hz
                       clear hz
                       have hb3 : Below wr.heap.size wr w3 := HB2.out.grown hgr HB2.out.size (fun j hj => (own_lt O2'.out j hj).1)
                       rw [← by8_append, show K + (256 - K) = 256 by omega] at hown
                       rw [show K + (256 - K) = 256 by omega]
                       have O3 := hide hown
                       have HB3 := hide hb3
                       clear hown hgr hb3))
                obtain ⟨Tj, hTj⟩ : ∃ q, (nthB Y j).take K ++ (nthB X0 j).drop K = q := ⟨_, rfl⟩
                have HTJ := hide (show T j = Tj by rw [HT.out, HK.out, hTj])
                rw [hTj] at O3
                have RT3 := Rb.of_own O3.out
                have RY3 := RY.out.below HB3.out
                obtain ⟨Yj, hYj⟩ : ∃ q, nthB Y j = q := ⟨_, rfl⟩
                rw [hYj] at RY3
                have S3 := hide (SJ.out.below HB3.out)
                have O4 := hide (own_mono O3.out SJ.out.2.2.2.1.size)
                have cx3 : w3.cell? ⟨gx, j, none⟩ = some (.slice Ax 256 qx) := (HB3.out.cell (p := ⟨gx, j, none⟩) GX.out.2).trans cx
                have cy3 : w3.cell? ⟨gy, j, none⟩ = some (.slice Ay 256 qy) := (HB3.out.cell (p := ⟨gy, j, none⟩) GY.out.2).trans cy
                have HYJ := hide hYj
                obtain ⟨W, hW⟩ : ∃ q, whK T (nthB Y) n2 j = q := ⟨_, rfl⟩
                rw [hW]
                have HW := hide hW
                have k1 := fun nq => conv_bytes (P := Try.prog) 34 5 9 Try.underlying34 Try.underlying5 Try.underlying9 c3 (show Rb (w3.drewN nq) _ _ _ from RT3)
                have k2 := fun nq => conv_bytes (P := Try.prog) 34 5 9 Try.underlying34 Try.underlying5 Try.underlying9 qy (show Rb (w3.drewN nq) _ _ _ from RY3)
                clear hTj hYj RT3 RY3 cx cy hW sy sx
                go_upto_region 21 with (fail)
                obtain ⟨q, hq⟩ : ∃ q, (!(Tj == Yj)) = q := ⟨_, rfl⟩
                have HQ := hide hq
                go_cut [135] (fun t wx => t = .bool q ∧ TornSt w w2 wx w1.heap.size (some ⟨gx, 0, none⟩) co k (curK T X0 j) ∧ wx.ownsRow w.heap.size 5 1 (.slice A3 256 c3) 256 (by8 Tj))
                case first =>
                  go_quiet (fail)
                  all_goals (go_wp2_with fail; go_meet; exact ⟨rfl, S3.out.below (Below.drewN' (Below.refl _ _) _), own_below O4.out (Below.drewN' (Below.refl _ _) _)⟩)
                case rest =>
                  obtain ⟨rfl, hst3, ho3⟩ := hcut
                  obtain ⟨⟨vx, cx4⟩, fx4⟩ := hst3.at_ (show j < k by omega)
                  have S5 := hide (hst3.put ho3 hgx0 j)
                  have HB5 := hide (hst3.2.2.2.1)
                  clear hst3 ho3 k1 k2 cx3 cy3 O4 S3 O3 HB3 RX RY QX QY SJ
                  cases q
                  · have he : Tj = Yj := by have := HQ.out; simpa using this
                    have HWN := hide (show whK T (nthB Y) n2 (j + 1) = W by rw [← HW.out]; show (if T j = nthB Y j then _ else _) = _; rw [if_pos (by rw [HTJ.out, HYJ.out, he])])
                    clear he hq
                    go_wp2_with fail
                    go_roundw
                    case rel => exact ⟨j + 1, by omega, by go_num, by rw [HWN.out], by rw [← curK_set, HTJ.out]; exact S5.out⟩
                    case measure => simp [intOf]; omega
                  · have he : ¬ Tj = Yj := by have := HQ.out; simpa using this
                    obtain ⟨M, hM⟩ : ∃ M, min W j = M := ⟨_, rfl⟩
                    have hmn := min2 (P := Try.prog) W j M hM
                    have HWN := hide (show whK T (nthB Y) n2 (j + 1) = M by rw [← hM, ← HW.out]; show (if T j = nthB Y j then _ else _) = _; rw [if_neg (by rw [HTJ.out, HYJ.out]; exact he)])
                    clear he hM hq
                    go_wp2_with fail
                    go_roundw
                    case rel => exact ⟨j + 1, by omega, by go_num, by rw [HWN.out], by rw [← curK_set, HTJ.out]; exact S5.out⟩
                    case measure => simp [intOf]; omega
              · have d0 : ((fk.toNat : Int) % 3 == 0) = false := by rw [beq_eq_false_iff_ne]; omega
                have d2 : ((fk.toNat : Int) % 3 == 2) = false := by rw [beq_eq_false_iff_ne]; omega
                go_wp2_with (fail)
                clear hc1 hc2
                have HKV := hide (show (256 : Int) = (K : Int) by have := HK.out; unfold keepK at this; rw [HF1.out, if_neg (fun e => h2 e.2), if_neg (fun e => h0 e.2)] at this; omega)
                have sy := run_hi slice34 size5 Ay 256 qy K (256) HKV.out (by have := QY.out; omega)
                have sx := run_lo slice34 size5 Ax 256 qx K (256) HKV.out (by omega)
                have RY1 := hide (RY.out.hi_ K qy (by omega) QY.out.1)
                have RX1 := hide (RX.out.lo_ K qx (by omega) QX.out.1)
                obtain ⟨P1, hP1⟩ : ∃ P, cutA Ay qy 0 = P := ⟨_, rfl⟩
                obtain ⟨P2, hP2⟩ : ∃ P, cutA Ax qx K = P := ⟨_, rfl⟩
                rw [hP1] at sy RY1
                rw [hP2] at sx RX1
                clear hP1 hP2
                have N0 := hide (show (wr.alloc (.cells #[] 5)).drew.ownsRow wr.heap.size 5 1 (.slice (some ⟨wr.heap.size, 0, none⟩) 0 0) 0 [] from nil_own wr)
                have N1 := hide (show Rd (wr.alloc (.cells #[] 5)).drew P1 K 1 (by8 ((nthB Y j).take K)) from rdb (RY1.out.alloc _))
                have N2 := hide (show wr.heap.size ≤ (wr.alloc (.cells #[] 5)).drew.heap.size by simp)
                have N3 := hide (show Below wr.heap.size wr (wr.alloc (.cells #[] 5)).drew from (Below.al (Below.refl _ _) _).drew)
                go_region_held3 (fun z => z.cell? ⟨gx, j, none⟩ = some (.slice Ax 256 qx) ∧ z.cell? ⟨gy, j, none⟩ = some (.slice Ay 256 qy)) (first | go_keep | exact ⟨(HB3.out.cell (p := ⟨gx, j, none⟩) GX.out.2).trans cx, (HB3.out.cell (p := ⟨gy, j, none⟩) GY.out.2).trans cy⟩ | exact ⟨(HB2.out.cell (p := ⟨gx, j, none⟩) GX.out.2).trans cx, (HB2.out.cell (p := ⟨gy, j, none⟩) GY.out.2).trans cy⟩)
                  (first
                    | (refine step_app rfl (.tmp 113) (.tmp 119) 34 rfl wr.heap.size 5 (.int .u8 0) 1 1 Try.underlying34 info5 rfl (by omega) (some ⟨wr.heap.size, 0, none⟩) 0 0 [] rfl ?_ P1 K qy (by8 ((nthB Y j).take K)) rfl ?_ (by8_one _) ?_ ?_ ?_ ?_
                       · exact N0.out
                       · exact N1.out
                       · unfold maxLen; omega
                       · omega
                       · exact N2.out
                       intro A2 c2' w2' hown hgr hz
                       clear hz
                       have hb2 : Below wr.heap.size wr w2' := N3.out.grown hgr N2.out (fun j hj => (own_lt N0.out j hj).1)
                       rw [List.nil_append, Nat.zero_add] at hown
                       rw [Nat.zero_add]
                       have O2' := hide hown
                       have HB2 := hide hb2
                       clear hown hgr hb2)
                    | (refine step_app rfl (.tmp 120) (.tmp 126) 34 rfl wr.heap.size 5 (.int .u8 0) 1 1 Try.underlying34 info5 rfl (by omega) A2 c2' K (by8 ((nthB Y j).take K)) rfl ?_ P2 (256 - K) (qx - K) (by8 ((nthB X0 j).drop K)) rfl ?_ (by8_one _) ?_ ?_ ?_ ?_
                       · exact O2'.out
                       · exact rdb (RX1.out.below HB2.out)
                       · unfold maxLen; omega
                       · omega
                       · exact HB2.out.size
                       intro A3 c3 w3 hown hgr hz
                       clear hz
                       have hb3 : Below wr.heap.size wr w3 := HB2.out.grown hgr HB2.out.size (fun j hj => (own_lt O2'.out j hj).1)
                       rw [← by8_append, show K + (256 - K) = 256 by omega] at hown
                       rw [show K + (256 - K) = 256 by omega]
                       have O3 := hide hown
                       have HB3 := hide hb3
                       clear hown hgr hb3))
                obtain ⟨Tj, hTj⟩ : ∃ q, (nthB Y j).take K ++ (nthB X0 j).drop K = q := ⟨_, rfl⟩
                have HTJ := hide (show T j = Tj by rw [HT.out, HK.out, hTj])
                rw [hTj] at O3
                have RT3 := Rb.of_own O3.out
                have RY3 := RY.out.below HB3.out
                obtain ⟨Yj, hYj⟩ : ∃ q, nthB Y j = q := ⟨_, rfl⟩
                rw [hYj] at RY3
                have S3 := hide (SJ.out.below HB3.out)
                have O4 := hide (own_mono O3.out SJ.out.2.2.2.1.size)
                have cx3 : w3.cell? ⟨gx, j, none⟩ = some (.slice Ax 256 qx) := (HB3.out.cell (p := ⟨gx, j, none⟩) GX.out.2).trans cx
                have cy3 : w3.cell? ⟨gy, j, none⟩ = some (.slice Ay 256 qy) := (HB3.out.cell (p := ⟨gy, j, none⟩) GY.out.2).trans cy
                have HYJ := hide hYj
                obtain ⟨W, hW⟩ : ∃ q, whK T (nthB Y) n2 j = q := ⟨_, rfl⟩
                rw [hW]
                have HW := hide hW
                have k1 := fun nq => conv_bytes (P := Try.prog) 34 5 9 Try.underlying34 Try.underlying5 Try.underlying9 c3 (show Rb (w3.drewN nq) _ _ _ from RT3)
                have k2 := fun nq => conv_bytes (P := Try.prog) 34 5 9 Try.underlying34 Try.underlying5 Try.underlying9 qy (show Rb (w3.drewN nq) _ _ _ from RY3)
                clear hTj hYj RT3 RY3 cx cy hW sy sx
                go_upto_region 21 with (fail)
                obtain ⟨q, hq⟩ : ∃ q, (!(Tj == Yj)) = q := ⟨_, rfl⟩
                have HQ := hide hq
                go_cut [135] (fun t wx => t = .bool q ∧ TornSt w w2 wx w1.heap.size (some ⟨gx, 0, none⟩) co k (curK T X0 j) ∧ wx.ownsRow w.heap.size 5 1 (.slice A3 256 c3) 256 (by8 Tj))
                case first =>
                  go_quiet (fail)
                  all_goals (go_wp2_with fail; go_meet; exact ⟨rfl, S3.out.below (Below.drewN' (Below.refl _ _) _), own_below O4.out (Below.drewN' (Below.refl _ _) _)⟩)
                case rest =>
                  obtain ⟨rfl, hst3, ho3⟩ := hcut
                  obtain ⟨⟨vx, cx4⟩, fx4⟩ := hst3.at_ (show j < k by omega)
                  have S5 := hide (hst3.put ho3 hgx0 j)
                  have HB5 := hide (hst3.2.2.2.1)
                  clear hst3 ho3 k1 k2 cx3 cy3 O4 S3 O3 HB3 RX RY QX QY SJ
                  cases q
                  · have he : Tj = Yj := by have := HQ.out; simpa using this
                    have HWN := hide (show whK T (nthB Y) n2 (j + 1) = W by rw [← HW.out]; show (if T j = nthB Y j then _ else _) = _; rw [if_pos (by rw [HTJ.out, HYJ.out, he])])
                    clear he hq
                    go_wp2_with fail
                    go_roundw
                    case rel => exact ⟨j + 1, by omega, by go_num, by rw [HWN.out], by rw [← curK_set, HTJ.out]; exact S5.out⟩
                    case measure => simp [intOf]; omega
                  · have he : ¬ Tj = Yj := by have := HQ.out; simpa using this
                    obtain ⟨M, hM⟩ : ∃ M, min W j = M := ⟨_, rfl⟩
                    have hmn := min2 (P := Try.prog) W j M hM
                    have HWN := hide (show whK T (nthB Y) n2 (j + 1) = M by rw [← hM, ← HW.out]; show (if T j = nthB Y j then _ else _) = _; rw [if_neg (by rw [HTJ.out, HYJ.out]; exact he)])
                    clear he hM hq
                    go_wp2_with fail
                    go_roundw
                    case rel => exact ⟨j + 1, by omega, by go_num, by rw [HWN.out], by rw [← curK_set, HTJ.out]; exact S5.out⟩
                    case measure => simp [intOf]; omega
          · have dj : decide ((j : Int) < (nf : Int)) = false := by simp; omega
            go_wp2_with (fail)
            have HKV := hide (show (256 : Int) = (K : Int) by have := HK.out; unfold keepK at this; rw [if_neg (fun e => hjf e.1), if_neg (fun e => hjf e.1)] at this; omega)
            have sy := run_hi slice34 size5 Ay 256 qy K (256) HKV.out (by have := QY.out; omega)
            have sx := run_lo slice34 size5 Ax 256 qx K (256) HKV.out (by omega)
            have RY1 := hide (RY.out.hi_ K qy (by omega) QY.out.1)
            have RX1 := hide (RX.out.lo_ K qx (by omega) QX.out.1)
            obtain ⟨P1, hP1⟩ : ∃ P, cutA Ay qy 0 = P := ⟨_, rfl⟩
            obtain ⟨P2, hP2⟩ : ∃ P, cutA Ax qx K = P := ⟨_, rfl⟩
            rw [hP1] at sy RY1
            rw [hP2] at sx RX1
            clear hP1 hP2
            have N0 := hide (show (wr.alloc (.cells #[] 5)).drew.ownsRow wr.heap.size 5 1 (.slice (some ⟨wr.heap.size, 0, none⟩) 0 0) 0 [] from nil_own wr)
            have N1 := hide (show Rd (wr.alloc (.cells #[] 5)).drew P1 K 1 (by8 ((nthB Y j).take K)) from rdb (RY1.out.alloc _))
            have N2 := hide (show wr.heap.size ≤ (wr.alloc (.cells #[] 5)).drew.heap.size by simp)
            have N3 := hide (show Below wr.heap.size wr (wr.alloc (.cells #[] 5)).drew from (Below.al (Below.refl _ _) _).drew)
            go_region_held3 (fun z => z.cell? ⟨gx, j, none⟩ = some (.slice Ax 256 qx) ∧ z.cell? ⟨gy, j, none⟩ = some (.slice Ay 256 qy)) (first | go_keep | exact ⟨(HB3.out.cell (p := ⟨gx, j, none⟩) GX.out.2).trans cx, (HB3.out.cell (p := ⟨gy, j, none⟩) GY.out.2).trans cy⟩ | exact ⟨(HB2.out.cell (p := ⟨gx, j, none⟩) GX.out.2).trans cx, (HB2.out.cell (p := ⟨gy, j, none⟩) GY.out.2).trans cy⟩)
              (first
                | (refine step_app rfl (.tmp 113) (.tmp 119) 34 rfl wr.heap.size 5 (.int .u8 0) 1 1 Try.underlying34 info5 rfl (by omega) (some ⟨wr.heap.size, 0, none⟩) 0 0 [] rfl ?_ P1 K qy (by8 ((nthB Y j).take K)) rfl ?_ (by8_one _) ?_ ?_ ?_ ?_
                   · exact N0.out
                   · exact N1.out
                   · unfold maxLen; omega
                   · omega
                   · exact N2.out
                   intro A2 c2' w2' hown hgr hz
                   clear hz
                   have hb2 : Below wr.heap.size wr w2' := N3.out.grown hgr N2.out (fun j hj => (own_lt N0.out j hj).1)
                   rw [List.nil_append, Nat.zero_add] at hown
                   rw [Nat.zero_add]
                   have O2' := hide hown
                   have HB2 := hide hb2
                   clear hown hgr hb2)
                | (refine step_app rfl (.tmp 120) (.tmp 126) 34 rfl wr.heap.size 5 (.int .u8 0) 1 1 Try.underlying34 info5 rfl (by omega) A2 c2' K (by8 ((nthB Y j).take K)) rfl ?_ P2 (256 - K) (qx - K) (by8 ((nthB X0 j).drop K)) rfl ?_ (by8_one _) ?_ ?_ ?_ ?_
                   · exact O2'.out
                   · exact rdb (RX1.out.below HB2.out)
                   · unfold maxLen; omega
                   · omega
                   · exact HB2.out.size
                   intro A3 c3 w3 hown hgr hz
                   clear hz
                   have hb3 : Below wr.heap.size wr w3 := HB2.out.grown hgr HB2.out.size (fun j hj => (own_lt O2'.out j hj).1)
                   rw [← by8_append, show K + (256 - K) = 256 by omega] at hown
                   rw [show K + (256 - K) = 256 by omega]
                   have O3 := hide hown
                   have HB3 := hide hb3
                   clear hown hgr hb3))
            obtain ⟨Tj, hTj⟩ : ∃ q, (nthB Y j).take K ++ (nthB X0 j).drop K = q := ⟨_, rfl⟩
            have HTJ := hide (show T j = Tj by rw [HT.out, HK.out, hTj])
            rw [hTj] at O3
            have RT3 := Rb.of_own O3.out
            have RY3 := RY.out.below HB3.out
            obtain ⟨Yj, hYj⟩ : ∃ q, nthB Y j = q := ⟨_, rfl⟩
            rw [hYj] at RY3
            have S3 := hide (SJ.out.below HB3.out)
            have O4 := hide (own_mono O3.out SJ.out.2.2.2.1.size)
            have cx3 : w3.cell? ⟨gx, j, none⟩ = some (.slice Ax 256 qx) := (HB3.out.cell (p := ⟨gx, j, none⟩) GX.out.2).trans cx
            have cy3 : w3.cell? ⟨gy, j, none⟩ = some (.slice Ay 256 qy) := (HB3.out.cell (p := ⟨gy, j, none⟩) GY.out.2).trans cy
            have HYJ := hide hYj
            obtain ⟨W, hW⟩ : ∃ q, whK T (nthB Y) n2 j = q := ⟨_, rfl⟩
            rw [hW]
            have HW := hide hW
            have k1 := fun nq => conv_bytes (P := Try.prog) 34 5 9 Try.underlying34 Try.underlying5 Try.underlying9 c3 (show Rb (w3.drewN nq) _ _ _ from RT3)
            have k2 := fun nq => conv_bytes (P := Try.prog) 34 5 9 Try.underlying34 Try.underlying5 Try.underlying9 qy (show Rb (w3.drewN nq) _ _ _ from RY3)
            clear hTj hYj RT3 RY3 cx cy hW sy sx
            go_upto_region 21 with (fail)
            obtain ⟨q, hq⟩ : ∃ q, (!(Tj == Yj)) = q := ⟨_, rfl⟩
            have HQ := hide hq
            go_cut [135] (fun t wx => t = .bool q ∧ TornSt w w2 wx w1.heap.size (some ⟨gx, 0, none⟩) co k (curK T X0 j) ∧ wx.ownsRow w.heap.size 5 1 (.slice A3 256 c3) 256 (by8 Tj))
            case first =>
              go_quiet (fail)
              all_goals (go_wp2_with fail; go_meet; exact ⟨rfl, S3.out.below (Below.drewN' (Below.refl _ _) _), own_below O4.out (Below.drewN' (Below.refl _ _) _)⟩)
            case rest =>
              obtain ⟨rfl, hst3, ho3⟩ := hcut
              obtain ⟨⟨vx, cx4⟩, fx4⟩ := hst3.at_ (show j < k by omega)
              have S5 := hide (hst3.put ho3 hgx0 j)
              have HB5 := hide (hst3.2.2.2.1)
              clear hst3 ho3 k1 k2 cx3 cy3 O4 S3 O3 HB3 RX RY QX QY SJ
              cases q
              · have he : Tj = Yj := by have := HQ.out; simpa using this
                have HWN := hide (show whK T (nthB Y) n2 (j + 1) = W by rw [← HW.out]; show (if T j = nthB Y j then _ else _) = _; rw [if_pos (by rw [HTJ.out, HYJ.out, he])])
                clear he hq
                go_wp2_with fail
                go_roundw
                case rel => exact ⟨j + 1, by omega, by go_num, by rw [HWN.out], by rw [← curK_set, HTJ.out]; exact S5.out⟩
                case measure => simp [intOf]; omega
              · have he : ¬ Tj = Yj := by have := HQ.out; simpa using this
                obtain ⟨M, hM⟩ : ∃ M, min W j = M := ⟨_, rfl⟩
                have hmn := min2 (P := Try.prog) W j M hM
                have HWN := hide (show whK T (nthB Y) n2 (j + 1) = M by rw [← hM, ← HW.out]; show (if T j = nthB Y j then _ else _) = _; rw [if_neg (by rw [HTJ.out, HYJ.out]; exact he)])
                clear he hM hq
                go_wp2_with fail
                go_roundw
                case rel => exact ⟨j + 1, by omega, by go_num, by rw [HWN.out], by rw [← curK_set, HTJ.out]; exact S5.out⟩
                case measure => simp [intOf]; omega
        · obtain rfl : j = n2 := by omega
          obtain ⟨W, hW⟩ : ∃ q, whK T (nthB Y) j j = q := ⟨_, rfl⟩
          obtain ⟨s1, s2, s3, s4, s5⟩ := scan_torn HE2.out X0 (keepK F nf) (keepK_le F nf) (fun i hi => ELD.out i (by rw [HX0L.out] at hi; exact hi)) (by rw [HX0L.out, HPY.out]; omega) T (fun i => by rw [HY.out]; exact HT.out i) (curK T X0 j) (curK_length T X0 j)
            (fun i hi => by rw [HPY.out]; exact curK_at T X0 j i hi) W (by rw [HY.out, HPY.out, hW])
          rw [HY.out] at s3 s4
          rw [HPY.out] at s5
          have hU := take_flat M W
          obtain ⟨U, hUU⟩ : ∃ U, ((pieces M).take W).flatten = U := ⟨_, rfl⟩
          rw [hUU] at s2 s4 hU
          rw [hW]
          have hOb := O2.out.stay SJ.out.2.2.1
          have hcap := own_cap hOb.2.choose_spec.1
          have SC1 := hide (scan_any 8 O k co (curK T X0 j) wr (by omega) SJ.out.1.rbb)
          have RY := hide (hOb.rbb.hi_ W c2 s5 hcap.1)
          have sl := run_hi slice25 size34 A2 j c2 W (W : Int) rfl (by have := hcap.1; omega)
          obtain ⟨P, hP⟩ : ∃ P, cutA A2 c2 0 = P := ⟨_, rfl⟩
          rw [hP] at RY sl
          have SC2 := hide (fun w h => scan_any 8 P W c2 (Y.take W) w (by omega) h)
          unfold ScanPost at SC1 SC2
          rw [s1, s2] at SC1
          rw [s3, s4] at SC2
          have HU := hide hU
          have HB := hide SJ.out.2.2.2.1
          have hUl := hide (show U.length ≤ m by
            have h1 := congrArg List.length hU
            rw [List.length_take] at h1
            have := H2.out.len
            omega)
          clear s1 s2 s3 s4 hU hUU hW hOb hcap hP SJ ST
          go_wp2_with (first
            | (go_at_call_of 17 (Value.slice O k co); refine SC1.out.mono ?_; rintro r w3 ⟨A3, n3, c3, rfl, hr3, hn3, hb3⟩
               have S3 := hide hr3
               have HN3 := hide hn3
               have HB3 := hide hb3
               clear hr3 hn3 hb3)
            | (go_at_call 17; refine (SC2.out _ (RY.out.below HB3.out)).mono ?_; rintro r w4 ⟨A4, n4, c4, rfl, hr4, hn4, hb4⟩
               have S4 := hide hr4
               have S34 := hide (S3.out.below hb4)
               have HB4 := hide (Below.then_ (Below.then_ HB.out HB3.out) hb4)
               have HL3 := hide hr4.len
               clear hr4 hn4 hb4)
            | (go_at_call 16; refine (sames_any _ _ _ _ _ _ _ _ _ (by have := S34.out.len; have := hUl.out; omega) S34.out S4.out).mono ?_; rintro r w5 ⟨rfl, hb5⟩
               rw [decide_eq_true (rfl : U = U)]
               have HB5 := hide (Below.then_ HB4.out hb5)
               have S35 := hide (S34.out.below hb5)
               clear hb5)
            | (go_at_call 19; refine (begins_yes _ _ _ U _ _ _ M _ (by have := S35.out.len; have := hUl.out; omega) (by have := S35.out.len; have := hUl.out; omega) hmd S35.out (H2.out.below HB5.out) (by have := HU.out; rw [S35.out.len] at this; exact this)).mono ?_; rintro r w6 ⟨rfl, hb6⟩
               have HB6 := hide (Below.then_ HB5.out hb6)
               clear hb6)
            | (go_at_call 8; refine (awake_any _).mono ?_; rintro r w7 ⟨rfl, hb7⟩))
          go_ret
          exact ⟨rfl, Below.then_ HB6.out hb7⟩
end Go.Proofs.Ytmdhckcoinhfpaa

/- Slices of slices of texts that the call makes; the walk of the reference's groups and Parts. -/
import Derived.Test.YtmdhckcoinhfpaaWa
import Derived.Laws.OwnMore
import Derived.OneCell
import Derived.Deep.RegionLaw
import Derived.Deep.DeepCutAuto
namespace Go.Proofs.Ytmdhckcoinhfpaa
open Go.RowKit

theorem info22 : (Try.prog.info? 22).map (fun i => (i.zero, i.size, i.bytes)) = some (some (.slice none 0 0), 1, 24) := by kernel_rfl
theorem size22 : (Try.prog.info? 22).map (·.size) = some 1 := by kernel_rfl
/-- Groups of texts, a row of rows that the call made. -/
def Gs (w : World) (base : Nat) (O : Option Addr) (c : Nat) (P : List (List Tx)) : Prop :=
  ∃ vs : List Value, w.ownsRow base 22 1 (.slice O P.length c) P.length vs ∧ ∀ (j : Nat) (q : List Tx), P[j]? = some q → ∃ A n d, vs[j]? = some (Value.slice A n d) ∧ w.ownsRow base 9 1 (.slice A n d) n (st8 q)
/-- The same, whose last one may grow. -/
def GsA (w : World) (base : Nat) (O : Option Addr) (c : Nat) (Q : List (List Tx)) (g : List Tx) : Prop :=
  ∃ (hB : Nat) (vs : List Value) (A : Option Addr) (n d : Nat), base ≤ hB ∧ hB ≤ w.heap.size ∧ vs.length = Q.length ∧ w.ownsRow base 22 1 (.slice O (Q.length + 1) c) (Q.length + 1) (vs ++ [.slice A n d]) ∧
    w.ownsRow hB 9 1 (.slice A n d) n (st8 g) ∧ ∀ (j : Nat) (q : List Tx), Q[j]? = some q → ∃ Aj nj cj, vs[j]? = some (Value.slice Aj nj cj) ∧ w.ownsRow base 9 1 (.slice Aj nj cj) nj (st8 q) ∧ ∀ b, (Value.slice Aj nj cj).ownBlock = some b → b < hB
theorem Gs.nil (w : World) (base : Nat) : Gs w base none 0 [] := ⟨[], World.ownsRow_nil _ _ _ _, fun j q h => by simp at h⟩
theorem Gs.below {w w' : World} {base : Nat} {O : Option Addr} {c : Nat} {P : List (List Tx)} (h : Gs w base O c P) (hb : Below w.heap.size w w') : Gs w' base O c P := by
  obtain ⟨vs, ho, hi⟩ := h
  exact ⟨vs, own_below ho hb, fun j q hq => by
    obtain ⟨A, n, d, h1, h2⟩ := hi j q hq
    exact ⟨A, n, d, h1, own_below h2 hb⟩⟩
theorem GsA.below {w w' : World} {base : Nat} {O : Option Addr} {c : Nat} {Q : List (List Tx)} {g : List Tx} (h : GsA w base O c Q g) (hb : Below w.heap.size w w') : GsA w' base O c Q g := by
  obtain ⟨hB, vs, A, n, d, h1, h2, h3, h4, h5, h6⟩ := h
  exact ⟨hB, vs, A, n, d, h1, Nat.le_trans h2 hb.size, h3, own_below h4 hb, own_below h5 hb, fun j q hq => by
    obtain ⟨Aj, nj, cj, k1, k2, k3⟩ := h6 j q hq
    exact ⟨Aj, nj, cj, k1, own_below k2 hb, k3⟩⟩
theorem GsA.all {w : World} {base : Nat} {O : Option Addr} {c : Nat} {Q : List (List Tx)} {g : List Tx} (h : GsA w base O c Q g) : Gs w base O c (Q ++ [g]) := by
  obtain ⟨hB, vs, A, n, d, h1, h2, h3, h4, h5, h6⟩ := h
  refine ⟨vs ++ [.slice A n d], by rw [List.length_append]; exact h4, fun j q hq => ?_⟩
  by_cases hj : j < Q.length
  · rw [List.getElem?_append_left hj] at hq
    obtain ⟨Aj, nj, cj, k1, k2, _⟩ := h6 j q hq
    exact ⟨Aj, nj, cj, by rw [List.getElem?_append_left (by omega)]; exact k1, k2⟩
  · have hj2 : j = Q.length := by
      have := (List.getElem?_eq_some_iff.1 hq).1
      simp at this
      omega
    subst hj2
    rw [List.getElem?_append_right (Nat.le_refl _), Nat.sub_self] at hq
    simp at hq
    subst hq
    exact ⟨A, n, d, by rw [List.getElem?_append_right (by omega), h3, Nat.sub_self]; rfl, own_mono h5 h1⟩
/-- A group of its own begins. -/
theorem Gs.new {w w' : World} {base : Nat} {O O' : Option Addr} {c c' : Nat} {P : List (List Tx)} (hbase : base ≤ w.heap.size) {vs : List Value} (ho : w.ownsRow base 22 1 (.slice O P.length c) P.length vs)
    (hi : ∀ (j : Nat) (q : List Tx), P[j]? = some q → ∃ A n d, vs[j]? = some (Value.slice A n d) ∧ w.ownsRow base 9 1 (.slice A n d) n (st8 q))
    (ho' : w'.ownsRow base 22 1 (.slice O' (P.length + 1) c') (P.length + 1) (vs ++ [.slice none 0 0])) (hg : w.grownBy w' (Value.slice O P.length c).ownBlock) : GsA w' base O' c' P [] := by
  refine ⟨w'.heap.size, vs, none, 0, 0, Nat.le_trans hbase hg.size, Nat.le_refl _, by have := ho.1; simpa using this, ho', World.ownsRow_nil _ _ _ _, fun j q hq => ?_⟩
  obtain ⟨A, n, d, h1, h2⟩ := hi j q hq
  have h3 : w'.ownsRow base 9 1 (.slice A n d) n (st8 q) := h2.kept hg (own_ne h2 ho (by decide))
  exact ⟨A, n, d, h1, h3, fun b hb => (own_lt h3 b hb).2⟩
/-- One text more in the last group: appended, and stored back. -/
theorem GsA.push {w w' : World} {base : Nat} {gO c : Nat} {Q : List (List Tx)} {g : List Tx} {t : Tx} {hB : Nat} {vs : List Value} {A A' : Option Addr} {n d d' : Nat} (h1 : base ≤ hB) (h2 : hB ≤ w.heap.size) (h3 : vs.length = Q.length)
    (h4 : w.ownsRow base 22 1 (.slice (some ⟨gO, 0, none⟩) (Q.length + 1) c) (Q.length + 1) (vs ++ [.slice A n d])) (h5 : w.ownsRow hB 9 1 (.slice A n d) n (st8 g))
    (h6 : ∀ (j : Nat) (q : List Tx), Q[j]? = some q → ∃ Aj nj cj, vs[j]? = some (Value.slice Aj nj cj) ∧ w.ownsRow base 9 1 (.slice Aj nj cj) nj (st8 q) ∧ ∀ b, (Value.slice Aj nj cj).ownBlock = some b → b < hB)
    (hn : w'.ownsRow hB 9 1 (.slice A' (n + 1) d') (n + 1) (st8 g ++ st8 [t])) (hg : w.grownBy w' (Value.slice A n d).ownBlock) :
    GsA (w'.setCell ⟨gO, Q.length, none⟩ (.slice A' (n + 1) d')) base (some ⟨gO, 0, none⟩) c Q (g ++ [t]) := by
  have h4' : w'.ownsRow base 22 1 (.slice (some ⟨gO, 0, none⟩) (Q.length + 1) c) (Q.length + 1) (vs ++ [.slice A n d]) := h4.kept hg (own_ne h4 h5 (by decide))
  have hst := h4'.stored Q.length (.slice A' (n + 1) d')
  have hset : (vs ++ [Value.slice A n d]).set Q.length (.slice A' (n + 1) d') = vs ++ [.slice A' (n + 1) d'] := by
    rw [List.set_append_right _ _ (by omega), h3, Nat.sub_self]; rfl
  rw [hset] at hst
  refine ⟨hB, vs, A', n + 1, d', h1, Nat.le_trans h2 (Nat.le_trans hg.size hst.2.size), h3, hst.1, ?_, fun j q hq => ?_⟩
  · rw [st8_append]
    exact hn.kept hst.2 (own_ne hn h4' (by decide))
  · obtain ⟨Aj, nj, cj, k1, k2, k3⟩ := h6 j q hq
    have k4 : w'.ownsRow base 9 1 (.slice Aj nj cj) nj (st8 q) := k2.kept hg (by
      cases hb : (Value.slice Aj nj cj).ownBlock with
      | none => exact .inl rfl
      | some b =>
        right
        intro e
        have := k3 b hb
        have := (own_lt h5 b e.symm).1
        omega)
    exact ⟨Aj, nj, cj, k1, k4.kept hst.2 (own_ne k4 h4' (by decide)), k3⟩
theorem take_succT' (L : List Tx) (k : Nat) (h : k < L.length) : L.take (k + 1) = L.take k ++ [nthT L k] := by
  rw [List.take_succ_eq_append_getElem h]
  simp [nthT, List.getD, h]
theorem length_le_costs : ∀ (l : List Tx), l.length ≤ costs l
  | [] => Nat.le_refl _
  | s :: r => by
    have := length_le_costs r
    have := cost_pos s
    rw [costs_cons, List.length_cons]
    omega
/-- The state of the reference's groups behind k texts. -/
def GR (L : List Tx) (B : Nat) (wr : World) (k : Nat) (O : Option Addr) (c u : Nat) : Prop :=
  Gs wr B O c (pieces (L.take k)) ∧ u ≤ 239 ∧ (∀ t', u + cost t' ≤ 239 → ∃ Q g, pieces (L.take k) = Q ++ [g] ∧ costs g = u ∧ GsA wr B O c Q g) ∧ ∀ t', ¬ u + cost t' ≤ 239 → pieces (L.take k ++ [t']) = pieces (L.take k) ++ [[t']]
theorem GR.start (L : List Tx) (w : World) : GR L w.heap.size w 0 none 0 239 := by
  unfold GR
  rw [List.take_zero, pieces_nil]
  exact ⟨Gs.nil _ _, Nat.le_refl _, fun t' h => by have := cost_pos t'; omega, fun t' _ => pieces_first t'⟩
theorem GR.step {L : List Tx} {B : Nat} {wr : World} {k : Nat} {O : Option Addr} {c : Nat} {Q : List (List Tx)} {g : List Tx} (hp : pieces (L.take k) = Q ++ [g]) (hg : costs g ≤ 239) (h : GsA wr B O c Q g) : GR L B wr k O c (costs g) := by
  unfold GR
  rw [hp]
  exact ⟨h.all, hg, fun t' _ => ⟨Q, g, rfl, rfl, h⟩, fun t' ht => by rw [pieces_snoc t' _ Q g hp, if_neg ht]⟩
def GroupsPost (L : List Tx) (w : World) (e : Ending) (w' : World) : Prop :=
  ∃ O c, e = .returned (.slice O (pieces L).length c) ∧ Gs w' w.heap.size O c (pieces L) ∧ Below w.heap.size w w'
set_option maxRecDepth 4000 in
set_option maxHeartbeats 16000000 in
theorem groups_any (A : Option Addr) (n c : Nat) (L : List Tx) (w : World) (hn : n ≤ 1000000) (h : Rs w A n L) : Calls Try.prog 23 #[.slice A n c] w (GroupsPost L w) := by
  have H := hide h
  have HL := hide h.len
  clear h
  go_enter Try.func23, Try.ntmps23
  go_wp2_with fail
  go_loopw [3, 4, 5, 6, 7] (fun o us i _ _ wr => ∃ (k u : Nat) (O : Option Addr) (c : Nat), k ≤ n ∧ i = .int .i64 k ∧ us = .int .i64 u ∧ o = .slice O (pieces (L.take k)).length c ∧ GR L w.heap.size wr k O c u ∧ Below w.heap.size w wr) (fun _ _ i _ _ _ => n - (intOf i).toNat)
  case atStart => exact ⟨0, 239, none, 0, Nat.zero_le _, rfl, rfl, by rw [List.take_zero, pieces_nil]; rfl, GR.start L w, Below.refl _ _⟩
  case round =>
    obtain ⟨k, u, O, co, hk, rfl, rfl, rfl, hgr, hbr⟩ := hrel
    have HB := hide hbr
    by_cases hlt : k < n
    · obtain ⟨b, o, s, rfl, hb, hcell, hse, hsz⟩ := H.out.cell_ hlt
      have hcr : wr.cell? ⟨b, o + k, none⟩ = some (.string s) := (hbr.cell (p := ⟨b, o + k, none⟩) hb).trans hcell
      have hbwr := hide (Nat.lt_of_lt_of_le hb hbr.size)
      obtain ⟨t, ht⟩ : ∃ t, nthT L k = t := ⟨_, rfl⟩
      rw [ht] at hse hsz
      have ET := hide (show L.take (k + 1) = L.take k ++ [t] by rw [take_succT' L k (by rw [HL.out]; exact hlt), ht])
      obtain ⟨M, hM⟩ : ∃ M, min s.size 238 = M := ⟨_, rfl⟩
      have hcost : cost t = 1 + M := by rw [← hM, hsz]; rfl
      have hmin := min238 (P := Try.prog) s.size M hM
      have hM2 : M ≤ 238 := by omega
      have HSE := hide hse
      have HCO := hide hcost
      unfold GR at hgr
      obtain ⟨hGs, hu, hfit, hnot⟩ := hgr
      have hPl := parts_le (L.take k)
      have hPn : (pieces (L.take k)).length ≤ 1000000 := by unfold parts at hPl; rw [List.length_take] at hPl; omega
      obtain ⟨P, hP⟩ : ∃ P, pieces (L.take k) = P := ⟨_, rfl⟩
      rw [hP] at hGs hfit hnot hPn ⊢
      have HF := hide (hfit t)
      have HN := hide (hnot t)
      have HG := hide hGs
      have HP := hide hP
      have HCELL := hide hcell
      clear hGs hfit hnot hP hPl hcell hse hsz hcost ht hM hbr
      go_upto_if 24 with (fail)
      go_cut [3, 4] (fun o2 us wx => ∃ (Q : List (List Tx)) (g : List Tx) (O : Option Addr) (c : Nat), o2 = .slice O (Q.length + 1) c ∧ us = .int .i64 (costs g : Nat) ∧ costs g + cost t ≤ 239 ∧ Q.length ≤ 1000000 ∧ pieces (L.take (k + 1)) = Q ++ [g ++ [t]] ∧ GsA wx w.heap.size O c Q g ∧ Below w.heap.size w wx)
      case first =>
        by_cases hf : u + (1 + M) ≤ 239
        · have d : decide (239 < (u : Int) + (1 + (M : Int))) = false := by simp; omega
          obtain ⟨Q, g, hQ, hcg, hga⟩ := HF.out (by rw [HCO.out]; exact hf)
          go_wp2_with fail
          go_meet
          exact ⟨Q, g, O, co, by rw [hQ, List.length_append]; rfl, by rw [hcg], by rw [hcg, HCO.out]; exact hf, by rw [hQ, List.length_append] at hPn; simp at hPn; omega,
            by rw [ET.out, pieces_snoc t _ Q g (HP.out.trans hQ), if_pos (by rw [hcg, HCO.out]; exact hf)], hga, HB.out⟩
        · have d : decide (239 < (u : Int) + (1 + (M : Int))) = true := by simp; omega
          have HNN := hide (HN.out (by rw [HCO.out]; exact hf))
          have hp63 := hide (show P.length + 1 ≤ maxLen by unfold maxLen; omega)
          go_wp2_with (first
            | ((with_reducible show wpList _ _ _ (⟨some 27, _, _, _, _, _⟩ :: _) _ _)
               have N6 : Rd (wr.alloc (.cells #[.slice none 0 0] 22)) (some ⟨wr.heap.size, 0, none⟩) 1 1 [.slice none 0 0] := (Vk.new wr 22 [.slice none 0 0]).rd 1 1 rfl
               have N7 : w.heap.size ≤ (wr.alloc (.cells #[.slice none 0 0] 22)).heap.size := by have := HB.out.size; simp; omega
               obtain ⟨vs, ho, hi⟩ := HG.out.below (Below.al (Below.refl _ _) (.cells #[.slice none 0 0] 22))
               refine wpList_app rfl (.tmp 25) (.tmp 26) 49 rfl w.heap.size 22 (.slice none 0 0) 1 24 Try.underlying49 info22 rfl (by omega) _ _ P.length vs rfl ho _ 1 _ [.slice none 0 0] rfl N6 (by simp [Value.oneCell']) hp63.out (by omega) N7 ?_
               intro A6 c6 w6 hown hgr hz
               clear hz
               have hb6 := hide ((Below.al HB.out _).grown hgr N7 (fun j hj => (own_lt ho j hj).1))
               have O6 := hide (Gs.new N7 ho hi hown hgr)
               clear hown hgr ho hi N6 N7))
          go_meet
          exact ⟨P, [], A6, c6, rfl, rfl, by rw [HCO.out]; simp [costs]; omega, hPn, by rw [ET.out]; exact HNN.out, O6.out, hb6.out⟩
      case rest =>
        obtain ⟨Q, g, O2, c2, rfl, rfl, hcg, hQn, hpc, hga, hbc⟩ := hcut
        obtain ⟨hB, vs, Al, nl, dl, k1, k2, k3, k4, k5, k6⟩ := hga
        obtain ⟨gO, cap, hv, _⟩ := k4.form (by omega)
        injection hv with e1 e2 e3
        subst e1
        subst e3
        have HC := hide hbc
        have K4 := hide k4
        have K5 := hide k5
        have K6 := hide k6
        have HPC := hide hpc
        have o1 : wc.cell? ⟨gO, Q.length, none⟩ = some (.slice Al nl dl) := by
          rw [k4.cellAt Q.length (by omega), List.getElem?_append_right (by omega), k3, Nat.sub_self]; rfl
        have f1 := k4.frozenAt Q.length
        have hl2 : wc.cell? ⟨b, o + k, none⟩ = some (.string s) := (hbc.cell (p := ⟨b, o + k, none⟩) hb).trans HCELL.out
        clear hbc k4 k5 k6 hpc
        go_wp2_with fail
        have HQN := hide hQn
        have hi0 : (0 : Int) ≤ (Q.length : Int) := by omega
        have hi1 : (Q.length : Int) < (Q.length : Int) + 1 := by omega
        have hj0 : (0 : Int) ≤ (k : Int) := by omega
        have hj1 : (k : Int) < (n : Int) := by omega
        have HCG := hide hcg
        clear hQn hu
        have EST := hide (show st8 [t] = [Value.string s] by rw [HSE.out]; rfl)
        have K4a := hide (show (wc.alloc (.cells #[.string s] 9)).drew.ownsRow w.heap.size 22 1 (.slice (some ⟨gO, 0, none⟩) (Q.length + 1) c2) (Q.length + 1) (vs ++ [.slice Al nl dl]) from (K4.out.alloc _).drew)
        have K5a := hide (show (wc.alloc (.cells #[.string s] 9)).drew.ownsRow hB 9 1 (.slice Al nl dl) nl (st8 g) from (K5.out.alloc _).drew)
        have N1 := hide (show Rd (wc.alloc (.cells #[.string s] 9)).drew (some ⟨wc.heap.size, 0, none⟩) 1 1 (st8 [t]) by rw [EST.out]; exact (Vk.new wc 9 [.string s]).rd 1 1 rfl)
        have N2 := hide (show hB ≤ (wc.alloc (.cells #[.string s] 9)).drew.heap.size by simp; omega)
        have N3 := hide (show nl ≤ 239 by
          have e1 := K5.out.1
          rw [st8_length] at e1
          have := length_le_costs g
          omega)
        have N4 := hide (show Below w.heap.size w (wc.alloc (.cells #[.string s] 9)).drew from (Below.al HC.out _).drew)
        have K6a := hide (show ∀ (j : Nat) (q : List Tx), Q[j]? = some q → ∃ Aj nj cj, vs[j]? = some (Value.slice Aj nj cj) ∧ (wc.alloc (.cells #[.string s] 9)).drew.ownsRow w.heap.size 9 1 (.slice Aj nj cj) nj (st8 q) ∧ ∀ b, (Value.slice Aj nj cj).ownBlock = some b → b < hB from fun j q hq => by
          obtain ⟨Aj, nj, cj, q1, q2, q3⟩ := K6.out j q hq
          exact ⟨Aj, nj, cj, q1, (q2.alloc _).drew, q3⟩)
        have K1 := hide k1
        have K3 := hide k3
        have hcm : costs g + (1 + M) ≤ 239 := by rw [← HCO.out]; exact hcg
        clear hcg k1 k2 k3
        go_region_law ((refine step_app rfl (.tmp 36) (.tmp 41) 22 rfl hB 9 (.string ⟨#[]⟩) 1 16 Try.underlying22 info9 rfl (by omega) Al dl nl (st8 g) rfl ?_ _ 1 1 (st8 [t]) rfl ?_ (st8_one _) ?_ ?_ ?_ ?_
                        · exact K5a.out
                        · exact N1.out
                        · have := N3.out; unfold maxLen; omega
                        · have := N3.out; omega
                        · exact N2.out
                        intro A6 c6 w6 hown hgr hz
                        clear hz
                        have hb6 := hide (N4.out.grown hgr N4.out.size (fun j hj => Nat.le_trans K1.out (own_lt K5a.out j hj).1))
                        have K46 := K4a.out.kept hgr (own_ne K4a.out K5a.out (by decide))
                        have o6 : w6.cell? ⟨gO, Q.length, none⟩ = some (.slice Al nl dl) := by
                          rw [K46.cellAt Q.length (by omega), List.getElem?_append_right (by rw [K3.out]; exact Nat.le_refl _), K3.out, Nat.sub_self]; rfl
                        have f6 := K46.frozenAt Q.length
                        have O6 := hide (GsA.push K1.out N2.out K3.out K4a.out K5a.out K6a.out hown hgr)
                        clear hown hgr K46))
        all_goals
          go_wp2_with fail
          go_roundw
          case rel =>
            have hl : (pieces (L.take (k + 1))).length = Q.length + 1 := by rw [HPC.out, List.length_append]; rfl
            have hcc : costs (g ++ [t]) = costs g + (1 + M) := by rw [costs_app, costs_one, HCO.out]
            refine ⟨k + 1, costs g + (1 + M), some ⟨gO, 0, none⟩, c2, by omega, by go_num, by go_num, by rw [hl], ?_, hb6.out.setCell (p := ⟨gO, Q.length, none⟩) (own_lt K4.out gO rfl).1 _⟩
            rw [← hcc]
            exact GR.step HPC.out (by omega) O6.out
          case measure => simp [intOf]; omega
    · obtain rfl : k = n := by omega
      have ET : L.take k = L := List.take_of_length_le (by rw [HL.out]; exact Nat.le_refl _)
      unfold GR at hgr
      rw [ET] at hgr ⊢
      have HG := hide hgr.1
      clear hgr ET
      go_wp2_with fail
      go_ret
      exact ⟨O, co, rfl, HG.out, HB.out⟩
set_option maxHeartbeats 1000000 in
theorem rparts_any (A : Option Addr) (n c : Nat) (L : List Tx) (w : World) (hn : n ≤ 1000000) (h : Rs w A n L) : Calls Try.prog 13 #[.slice A n c] w fun e w' => e = .returned (.int .i64 (parts L : Nat)) ∧ Below w.heap.size w w' := by
  have G := hide (groups_any A n c L w hn h)
  unfold GroupsPost at G
  obtain ⟨P, hP⟩ : ∃ P, pieces L = P := ⟨_, rfl⟩
  unfold parts
  rw [hP] at G ⊢
  clear hP
  go_enter Try.func13, Try.ntmps13
  go_wp2_with (go_at_call 23; refine G.out.mono ?_; rintro e w1 ⟨O, c1, rfl, hg, hb⟩)
  go_ret
  exact ⟨rfl, hb⟩
end Go.Proofs.Ytmdhckcoinhfpaa

/- The walks of Check and New. -/
import Derived.Test.YtiaahlkhpghnnaaLc
import Derived.Test.YtiaahlkhpghnnaaSetM
namespace Go.Proofs.Ytiaahlkhpghnnaa
open Go.RowKit Go.Instr

theorem int_keys : KeyEnc Try.prog 3 Int (Value.int .i64) (.int .i64) where
  under := Try.underlying3
  same x y := by simp [sameNow, BEq.beq, decide]
  bits x := by simp [sameBits]
  ok x e w := by
    rw [show (10000 : Nat) = 9999 + 1 from rfl]
    unfold checkKey
    simp [run_underlying Try.underlying3]
def inR (x : Int) : Bool := decide (0 ≤ x ∧ x ≤ 1099511627776)
def okI (t : It) : Bool := inR t.id && inR t.pins
def ids (L : List It) : List Int := L.map It.id
/-- May a cache be? -/
def checkC (room : Int) (L : List It) : Int :=
  if room < 1 ∨ 4096 < room then 2 else if 8192 < L.length then 7 else if L.all okI = false then 9 else if (ids L).Nodup then 0 else 12
/-- The world in which an item lies in a block of its own. -/
def itW (w : World) (t : It) : World := w.alloc (.cells #[.int .i64 t.id, .int .i64 t.pins, .bool t.dirty] 47)
theorem itW_block (w : World) (t : It) (b : Nat) (h : b < w.heap.size) : (itW w t).heap[b]? = w.heap[b]? := Below.heap_alloc _ _ _ h
theorem itW_below {B : Nat} {w0 w : World} (h : Below B w0 w) (hB : B ≤ w.heap.size) (t : It) : Below B w0 (itW w t) := h.alloc hB _
theorem itW_size (w : World) (t : It) : (itW w t).heap.size = w.heap.size + 1 := by simp [itW]
theorem take_succ_ids (L : List It) (k : Nat) (h : k < L.length) : (ids L).take (k + 1) = (ids L).take k ++ [(nthI L k).id] := by
  have : k < (ids L).length := by simpa [ids] using h
  rw [List.take_add_one, List.getElem?_eq_getElem this]
  simp [ids, nthI, List.getD, h]
theorem nodup_snoc (l : List Int) (x : Int) : (l ++ [x]).Nodup ↔ l.Nodup ∧ x ∉ l := by
  rw [List.nodup_append]
  simp
  intro _
  exact ⟨fun h hx => h x hx rfl, fun h a ha e => h (e ▸ ha)⟩
def twiceK (L : List It) (k : Nat) : Bool := !decide ((ids L).take k).Nodup
theorem twice_succ (L : List It) (k : Nat) (h : k < L.length) : twiceK L (k + 1) = (twiceK L k || decide ((nthI L k).id ∈ (ids L).take k)) := by
  unfold twiceK
  rw [take_succ_ids L k h]
  by_cases h1 : ((ids L).take k).Nodup <;> by_cases h2 : (nthI L k).id ∈ (ids L).take k <;> simp [nodup_snoc, h1, h2]
theorem all_no {L : List It} {k : Nat} (hk : k < L.length) (h : okI (nthI L k) = false) : L.all okI = false := by
  rw [List.all_eq_false]
  exact ⟨L[k], List.getElem_mem hk, by have : nthI L k = L[k] := by simp [nthI, List.getD, hk]
                                       rw [← this, h]; simp⟩
theorem all_yes {L : List It} (h : ∀ j, j < L.length → okI (nthI L j) = true) : L.all okI = true := by
  rw [List.all_eq_true]
  intro x hx
  obtain ⟨j, hj, rfl⟩ := List.getElem_of_mem hx
  have : nthI L j = L[j] := by simp [nthI, List.getD, hj]
  rw [← this]
  exact h j hj
theorem bool_zero (w : World) : (zeroValue 4).run Try.prog w = .ok (.bool false) w := by kernel_rfl
theorem Vk.of_heap {w w' : World} {g : Nat} {e : TypeId} {xs : List Value} (h : Vk w g e xs) (hw : w'.heap[g]? = w.heap[g]?) : Vk w' g e xs := hw.trans h
set_option maxHeartbeats 4000000 in
theorem check_any (room : Int) (A : Option Addr) (n c : Nat) (L : List It) (w : World) (hn : n ≤ 1000) (h : Rit w A n L) :
    Calls Try.prog 11 #[.agg #[.int .i64 room, .slice A n c]] w fun e w' => e = .returned (.int .i64 (checkC room L)) ∧ Below w.heap.size w w' := by
  have H := hide h
  have HL := hide h.len
  by_cases hr : room < 1 ∨ 4096 < room
  · have hc : checkC room L = 2 := by unfold checkC; rw [if_pos hr]
    rw [hc]
    clear h hc
    by_cases h1 : room < 1
    · go_enter Try.func11, Try.ntmps11
      go_wp2_with fail
      go_ret
      exact ⟨rfl, Below.al (Below.refl _ _) _⟩
    · have h2 : 4096 < room := by omega
      go_enter Try.func11, Try.ntmps11
      go_wp2_with fail
      go_ret
      exact ⟨rfl, Below.al (Below.refl _ _) _⟩
  · have h1 : decide (room < 1) = false := by simp; omega
    have h2 : decide (4096 < room) = false := by simp; omega
    have h3 : decide (8192 < (n : Int)) = false := by simp; omega
    have hc : checkC room L = if L.all okI = false then 9 else if (ids L).Nodup then 0 else 12 := by unfold checkC; rw [if_neg hr, if_neg (by rw [h.len]; omega)]
    obtain ⟨R, hR⟩ : ∃ R, (if L.all okI = false then (9 : Int) else if (ids L).Nodup then 0 else 12) = R := ⟨_, rfl⟩
    rw [hc, hR]
    have HR := hide hR
    have V1 := hide (show Vk ((w.alloc (.cells #[.int .i64 room, .slice A n c] 28)).alloc (.map #[] 0)) w.heap.size 28 [.int .i64 room, .slice A n c] from (Vk.new w 28 [.int .i64 room, .slice A n c]).alloc _)
    have M1 := hide (show SetM (Value.int .i64) ((w.alloc (.cells #[.int .i64 room, .slice A n c] 28)).alloc (.map #[] 0)) (w.heap.size + 1) ([] : List Int) by
      have := SetM.made (enc := Value.int .i64) (w.alloc (.cells #[.int .i64 room, .slice A n c] 28))
      simpa using this)
    have mk := fun w => run_makeMap (P := Try.prog) 59 w
    clear h hc hr hR
    go_enter Try.func11, Try.ntmps11
    go_wp2_with fail
    go_loopw [4, 6, 25] (fun tw _ i wr => ∃ (k : Nat) (ks : List Int), k ≤ n ∧ i = .int .i64 k ∧ tw = .bool (twiceK L k) ∧ (∀ j, j < k → okI (nthI L j) = true) ∧ SetM (Value.int .i64) wr (w.heap.size + 1) ks ∧ (∀ x, x ∈ ks ↔ x ∈ (ids L).take k) ∧ Vk wr w.heap.size 28 [.int .i64 room, .slice A n c] ∧ Below w.heap.size w wr) (fun _ _ i _ => n - (intOf i).toNat)
    case atStart =>
      exact ⟨0, [], Nat.zero_le _, rfl, by simp [twiceK], fun j hj => absurd hj (by omega), M1.out, fun x => by simp, V1.out, Below.al (Below.al (Below.refl _ _) _) _⟩
    case round =>
      obtain ⟨k, ks, hk, rfl, rfl, hok, hset, hks, hbox, hbr⟩ := hrel
      have OK := hide hok
      have ST := hide hset
      have KS := hide hks
      have BX := hide hbox
      have HB := hide hbr
      clear hok hset hks hbox
      by_cases hlt : k < n
      · obtain ⟨b, o, rfl, _, h0, h1, h2⟩ := (H.out.below hbr).at_ hlt
        obtain ⟨T, hT⟩ : ∃ T, nthI L k = T := ⟨_, rfl⟩
        rw [hT] at h0 h1 h2
        have I1 := hide (fun w => in_any T.id w)
        have I2 := hide (fun w => in_any T.pins w)
        have e1 : decide (0 ≤ T.id ∧ T.id ≤ 1099511627776) = inR T.id := rfl
        have e2 : decide (0 ≤ T.pins ∧ T.pins ≤ 1099511627776) = inR T.pins := rfl
        rw [e1] at I1
        rw [e2] at I2
        have HT := hide hT
        have HIT := hide (itW_below HB.out HB.out.size T)
        obtain ⟨q1, hq1⟩ : ∃ q, inR T.id = q := ⟨_, rfl⟩
        obtain ⟨q2, hq2⟩ : ∃ q, inR T.pins = q := ⟨_, rfl⟩
        rw [hq1] at I1
        rw [hq2] at I2
        have HQ1 := hide hq1
        have HQ2 := hide hq2
        clear hbr e1 e2 hT hq1 hq2
        cases q1
        · go_wp2_with (first
            | (go_at_call_of 25 (Value.int .i64 T.id); refine (I1.out _).mono ?_; rintro r w1 ⟨rfl, rfl⟩)
            | (go_at_call_of 25 (Value.int .i64 T.pins); refine (I2.out _).mono ?_; rintro r w1 ⟨rfl, rfl⟩))
          go_ret
          rw [← HR.out, if_pos (all_no (k := k) (by rw [HL.out]; exact hlt) (by rw [HT.out, okI, HQ1.out]; rfl))]
          exact ⟨rfl, HIT.out⟩
        cases q2
        · go_wp2_with (first
            | (go_at_call_of 25 (Value.int .i64 T.id); refine (I1.out _).mono ?_; rintro r w1 ⟨rfl, rfl⟩)
            | (go_at_call_of 25 (Value.int .i64 T.pins); refine (I2.out _).mono ?_; rintro r w1 ⟨rfl, rfl⟩))
          go_ret
          rw [← HR.out, if_pos (all_no (k := k) (by rw [HL.out]; exact hlt) (by rw [HT.out, okI, HQ1.out, HQ2.out]; rfl))]
          exact ⟨rfl, HIT.out⟩
        have hblt : w.heap.size + 1 < wr.heap.size := ST.out.lt
        have ST2 := ST.out.of_block (itW_block wr T _ hblt)
        obtain ⟨ob, hp, hs⟩ := ST2.put int_keys (t := 59) Try.underlying59 T.id
        have lk := ST2.look int_keys (t := 59) Try.underlying59 (bool_zero _) T.id
        have SP := hide hs
        have HP2 := hide (setBl_grown (w := itW wr T) (b := w.heap.size + 1) ob)
        have BX2 := hide ((BX.out.of_heap (itW_block wr T _ BX.out.lt)).grown HP2.out (by simp))
        have HB2 := hide (HIT.out.grown HP2.out (by rw [itW_size]; have := HB.out.size; omega) (fun j hj => by injection hj with hj; omega))
        have TW := hide (twice_succ L k (by rw [HL.out]; exact hlt))
        have TK := hide (take_succ_ids L k (by rw [HL.out]; exact hlt))
        clear hs ST2
        unfold itW at hp lk
        obtain ⟨q, hq⟩ : ∃ q, decide (T.id ∈ ks) = q := ⟨_, rfl⟩
        rw [hq] at lk
        obtain ⟨tw, htw⟩ : ∃ q, twiceK L k = q := ⟨_, rfl⟩
        rw [htw]
        have HTW := hide htw
        have HQ := hide hq
        clear hq htw
        have fin : ∃ (k' : Nat) (ks' : List Int), k' ≤ n ∧ (k : Int) + 1 = (k' : Int) ∧ (tw || q) = twiceK L k' ∧ (∀ j, j < k' → okI (nthI L j) = true) ∧ SetM (Value.int .i64) (setBl (itW wr T) (w.heap.size + 1) ob) (w.heap.size + 1) ks' ∧ (∀ x, x ∈ ks' ↔ x ∈ (ids L).take k') ∧ k' = k + 1 := by
          refine ⟨k + 1, _, by omega, by omega, ?_, fun j hj => ?_, SP.out, fun x => ?_, rfl⟩
          · rw [TW.out, HTW.out, HT.out]
            congr 1
            rw [← HQ.out]
            exact decide_eq_decide.2 (KS.out _)
          · rcases Nat.lt_or_ge j k with h1 | h1
            · exact OK.out j h1
            · obtain rfl : j = k := by omega
              rw [HT.out, okI, HQ1.out, HQ2.out]; rfl
          · rw [TK.out, HT.out, List.mem_append, List.mem_singleton, ← KS.out]
            split
            · rename_i hin
              exact ⟨.inl, fun h => h.elim id (fun e => e ▸ hin)⟩
            · rw [List.mem_append, List.mem_singleton]
        have FIN := hide fin
        clear fin
        cases tw
        · go_wp2_with (first
            | (go_at_call_of 25 (Value.int .i64 T.id); refine (I1.out _).mono ?_; rintro r w1 ⟨rfl, rfl⟩)
            | (go_at_call_of 25 (Value.int .i64 T.pins); refine (I2.out _).mono ?_; rintro r w1 ⟨rfl, rfl⟩))
          go_roundw
          case rel =>
            obtain ⟨k', ks', f1, f2, f3, f4, f5, f6, _⟩ := FIN.out
            exact ⟨k', ks', f1, by rw [f2], by rw [← f3]; rfl, f4, f5, f6, BX2.out, HB2.out⟩
          case measure => simp [intOf]; omega
        · go_wp2_with (first
            | (go_at_call_of 25 (Value.int .i64 T.id); refine (I1.out _).mono ?_; rintro r w1 ⟨rfl, rfl⟩)
            | (go_at_call_of 25 (Value.int .i64 T.pins); refine (I2.out _).mono ?_; rintro r w1 ⟨rfl, rfl⟩))
          go_roundw
          case rel =>
            obtain ⟨k', ks', f1, f2, f3, f4, f5, f6, _⟩ := FIN.out
            exact ⟨k', ks', f1, by rw [f2], by rw [← f3]; rfl, f4, f5, f6, BX2.out, HB2.out⟩
          case measure => simp [intOf]; omega
      · obtain rfl : k = n := by omega
        have hall : L.all okI = true := all_yes (fun j hj => OK.out j (by rw [← HL.out]; exact hj))
        have htk : (ids L).take k = ids L := List.take_of_length_le (by simp [ids, HL.out])
        have hd : twiceK L k = !decide (ids L).Nodup := by unfold twiceK; rw [htk]
        have HALL := hide hall
        rw [hd]
        obtain ⟨q, hq⟩ : ∃ q, decide (ids L).Nodup = q := ⟨_, rfl⟩
        rw [hq]
        have HQ := hide hq
        clear hq hd htk hall hbr
        cases q
        · go_wp2_with fail
          go_ret
          rw [← HR.out, if_neg (by rw [HALL.out]; simp), if_neg (of_decide_eq_false HQ.out)]
          exact ⟨rfl, HB.out⟩
        · go_wp2_with fail
          go_ret
          rw [← HR.out, if_neg (by rw [HALL.out]; simp), if_pos (of_decide_eq_true HQ.out)]
          exact ⟨rfl, HB.out⟩
end Go.Proofs.Ytiaahlkhpghnnaa

/- The walk of the law LruOrder. -/
import Derived.Test.YtiaahlkhpghnnaaLk
import Derived.Test.YtiaahlkhpghnnaaLn
import Derived.Test.YtiaahlkhpghnnaaOrder
namespace Go.Proofs.Ytiaahlkhpghnnaa
open Go.RowKit Go.Instr

def iis (Z : List Int) : List Value := Z.map (Value.int .i64)
def Ri (w : World) (A : Option Addr) (n : Nat) (Z : List Int) : Prop := Rd w A n 1 (iis Z)
theorem iis_length (Z : List Int) : (iis Z).length = Z.length := by simp [iis]
theorem iis_app (Y Z : List Int) : iis (Y ++ Z) = iis Y ++ iis Z := by simp [iis]
theorem iis_one (Z : List Int) : ∀ u ∈ iis Z, u.oneCell' = true := by
  intro u hu
  simp only [iis, List.mem_map] at hu
  obtain ⟨z, _, rfl⟩ := hu
  rfl
theorem Ri.len {w : World} {A : Option Addr} {n : Nat} {Z : List Int} (h : Ri w A n Z) : Z.length = n := by have := h.1; rw [iis_length] at this; omega
theorem Ri.at_ {w : World} {A : Option Addr} {n : Nat} {Z : List Int} (h : Ri w A n Z) {k : Nat} (hk : k < n) : ∃ b o, A = some ⟨b, o, none⟩ ∧ b < w.heap.size ∧ w.cell? ⟨b, o + k, none⟩ = some (.int .i64 (Z.getD k 0)) := by
  have hl := h.len
  obtain ⟨b, o, rfl, hb, hc⟩ := Rd.at_ h (by rw [iis_length]; omega)
  exact ⟨b, o, rfl, hb, hc k _ (by simp [iis, List.getD, show k < Z.length by omega])⟩
theorem Ri.below {w w' : World} {A : Option Addr} {n : Nat} {Z : List Int} (h : Ri w A n Z) (hb : Below w.heap.size w w') : Ri w' A n Z := Rd.below h hb
def a0 : Ac := ⟨0, 0, 0, false⟩
def nthA (L : List Ac) (k : Nat) : Ac := L.getD k a0
def acs (L : List Ac) : List Value := L.flatMap acC
theorem acs_length (L : List Ac) : (acs L).length = L.length * 4 := by
  induction L with
  | nil => rfl
  | cons a l ih => simp only [acs, List.flatMap_cons, List.length_append, List.length_cons] at *; simp only [acC, List.length_cons, List.length_nil]; omega
theorem acs_get : ∀ (L : List Ac) (k : Nat), k < L.length → (acs L)[k * 4]? = some (.int .u8 ((nthA L k).kind.toNat : Int)) ∧ (acs L)[k * 4 + 1]? = some (.int .i64 (nthA L k).id) ∧ (acs L)[k * 4 + 2]? = some (.int .i64 (nthA L k).tow) ∧ (acs L)[k * 4 + 3]? = some (.bool (nthA L k).dirty)
  | [], k, h => absurd h (by simp)
  | a :: l, 0, _ => ⟨rfl, rfl, rfl, rfl⟩
  | a :: l, k + 1, h => by
    have ih := acs_get l k (by simpa using h)
    have e : ∀ j, (acs (a :: l))[(k + 1) * 4 + j]? = (acs l)[k * 4 + j]? := fun j => by
      show (acC a ++ acs l)[(k + 1) * 4 + j]? = _
      rw [List.getElem?_append_right (by simp [acC]; omega)]
      congr 1
      simp [acC]; omega
    have n1 : nthA (a :: l) (k + 1) = nthA l k := by simp [nthA]
    rw [n1]
    exact ⟨(e 0).trans ih.1, (e 1).trans ih.2.1, (e 2).trans ih.2.2.1, (e 3).trans ih.2.2.2⟩
def Rac (w : World) (A : Option Addr) (n : Nat) (L : List Ac) : Prop := Rd w A n 4 (acs L)
theorem Rac.len {w : World} {A : Option Addr} {n : Nat} {L : List Ac} (h : Rac w A n L) : L.length = n := by have := h.1; rw [acs_length] at this; omega
theorem Rac.at_ {w : World} {A : Option Addr} {n : Nat} {L : List Ac} (h : Rac w A n L) {k : Nat} (hk : k < n) : ∃ b o, A = some ⟨b, o, none⟩ ∧ b < w.heap.size ∧ w.cell? ⟨b, o + k * 4, none⟩ = some (.int .u8 ((nthA L k).kind.toNat : Int)) ∧ w.cell? ⟨b, o + k * 4 + 1, none⟩ = some (.int .i64 (nthA L k).id) ∧
    w.cell? ⟨b, o + k * 4 + 2, none⟩ = some (.int .i64 (nthA L k).tow) ∧ w.cell? ⟨b, o + k * 4 + 3, none⟩ = some (.bool (nthA L k).dirty) := by
  have hl := h.len
  obtain ⟨b, o, rfl, hb, hc⟩ := Rd.at_ h (by rw [acs_length]; omega)
  obtain ⟨h0, h1, h2, h3⟩ := acs_get L k (by omega)
  exact ⟨b, o, rfl, hb, hc _ _ h0, by rw [Nat.add_assoc]; exact hc _ _ h1, by rw [Nat.add_assoc]; exact hc _ _ h2, by rw [Nat.add_assoc]; exact hc _ _ h3⟩
theorem Rac.below {w w' : World} {A : Option Addr} {n : Nat} {L : List Ac} (h : Rac w A n L) (hb : Below w.heap.size w w') : Rac w' A n L := Rd.below h hb
theorem Vk.four {w : World} {g : Nat} {e : TypeId} {x y z u : Value} (h : Vk w g e [x, y, z, u]) : w.cell? ⟨g, 0, none⟩ = some x ∧ w.cell? ⟨g, 1, none⟩ = some y ∧ w.cell? ⟨g, 2, none⟩ = some z ∧ w.cell? ⟨g, 3, none⟩ = some u :=
  ⟨h.cell 0, h.cell 1, h.cell 2, h.cell 3⟩
theorem new_room (rm : Int) (h1 : 1 ≤ rm) (h2 : rm ≤ 4096) : newV rm = .tuple #[.agg #[.int .i64 rm, .slice none 0 0], .int .i64 0] ∧ checkC rm [] = 0 := by
  have e : checkC rm [] = 0 := by rw [check_empty, if_neg (by omega)]
  refine ⟨?_, e⟩
  unfold newV newC
  rw [if_pos e]
theorem info3 : (Try.prog.info? 3).map (fun i => (i.zero, i.size, i.bytes)) = some (some (.int .i64 0), 1, 8) := by kernel_rfl
def OrdSt (w wr : World) (P : Nat) (rm : Int) (k : Nat) (last : Value) : Prop :=
  ∃ (m d ln lc : Nat) (B Lp : Option Addr) (C : List It), last = .slice Lp ln lc ∧ Vk wr P 28 [.int .i64 rm, .slice B m d] ∧ Rit wr B m C ∧ Ri wr Lp ln (ids C) ∧ checkC rm C = 0 ∧ C.length ≤ k ∧ (∀ a, B = some a → a.block ≠ P) ∧ (∀ a, Lp = some a → a.block ≠ P) ∧ Below w.heap.size w wr
set_option maxRecDepth 20000 in
set_option maxHeartbeats 16000000 in
theorem order_in (room : UInt8) (A : Option Addr) (n c : Nat) (L : List Ac) (w : World) (hn : n ≤ 40) (h : Rac w A n L) :
    Calls Try.prog 4 #[.int .u8 (room.toNat : Int), .slice A n c] w fun e w' => e = .returned (.bool true) ∧ Below w.heap.size w w' := by
  have H := hide h
  have hrb := room.toNat_lt
  obtain ⟨rm, hrm⟩ : ∃ rm, (1 : Int) + (room.toNat : Int) = rm := ⟨_, rfl⟩
  have hrm1 : 1 ≤ rm ∧ rm ≤ 256 := by omega
  obtain ⟨e1, e2⟩ := new_room rm (by omega) (by omega)
  have NW := hide (new_any rm w)
  rw [e1] at NW
  have CE := hide e2
  have RM := hide hrm1
  have dn : decide (40 < (n : Int)) = false := by simp; omega
  have hw1 : IntKind.i64.wrap (1 + (room.toNat : Int)) = rm := by rw [IntKind.wrap_i64]; omega
  clear h e1 e2 hrm
  go_enter Try.func4, Try.ntmps4
  go_wp2_with (
    go_at_call 7
    refine NW.out.mono ?_
    rintro r wn ⟨rfl, hbn⟩
    have HBN := hide hbn
    have VN := hide (Vk.new wn 28 [.int .i64 rm, .slice none 0 0])
    clear hbn)
  go_loopw [7, 8, 9, 10, 11] (fun last i _ _ _ wr => ∃ k : Nat, k ≤ n ∧ i = .int .i64 k ∧ OrdSt w wr wn.heap.size rm k last) (fun _ i _ _ _ _ => n - (intOf i).toNat)
  case atStart => exact ⟨0, Nat.zero_le _, rfl, 0, 0, 0, 0, none, none, [], rfl, VN.out, Rit.none_ _ _, Rd.none_ _ _ _, CE.out, Nat.le_refl _, (fun a h => by cases h), (fun a h => by cases h), Below.al HBN.out _⟩
  case round =>
    obtain ⟨k, hk, rfl, m, d, ln, lc, B, Lp, C, rfl, hv, hr, hz, hc, hl, hB, hLp, hbr⟩ := hrel
    have V0 := hide hv
    have R0 := hide hr
    have Z0 := hide hz
    have C0 := hide hc
    have L0 := hide hl
    have B0 := hide hB
    have P0 := hide hLp
    have HB0 := hide hbr
    have hm := hr.len
    have hln := hz.len
    rw [show (ids C).length = C.length by simp [ids]] at hln
    obtain ⟨y0, y1, _, _⟩ := hv.two
    clear hv hr hz hc hB hLp
    by_cases hlt : k < n
    · obtain ⟨ba, oa, rfl, _, g0, g1, g2, g3⟩ := (H.out.below hbr).at_ hlt
      have hkn : (k : Int) < (n : Int) := by omega
      have hk0 : (0 : Int) ≤ (k : Int) := by omega
      obtain ⟨T, hT⟩ : ∃ T, nthA L k = T := ⟨_, rfl⟩
      rw [hT] at g0 g1 g2 g3
      have hkd := T.kind.toNat_lt
      have V1 := hide (V0.out.alloc (.cells #[.int .u8 (T.kind.toNat : Int), .int .i64 T.id, .int .i64 T.tow, .bool T.dirty] 44))
      have VA := hide (Vk.new wr 44 [.int .u8 (T.kind.toNat : Int), .int .i64 T.id, .int .i64 T.tow, .bool T.dirty])
      have R1 := hide (Rit.al R0.out (.cells #[.int .u8 (T.kind.toNat : Int), .int .i64 T.id, .int .i64 T.tow, .bool T.dirty] 44))
      have Z1 := hide (show Ri _ Lp ln (ids C) from Rd.alloc Z0.out (.cells #[.int .u8 (T.kind.toNat : Int), .int .i64 T.id, .int .i64 T.tow, .bool T.dirty] 44))
      have HB1 := hide (Below.al HB0.out (.cells #[.int .u8 (T.kind.toNat : Int), .int .i64 T.id, .int .i64 T.tow, .bool T.dirty] 44))
      obtain ⟨x0, x1, _, _⟩ := V1.out.two
      clear hbr hT
      by_cases hk5 : 5 < T.kind.toNat % 8
      · have d5 : decide (5 < (T.kind.toNat : Int) % 8) = true := by simp; omega
        go_wp2_with fail
        go_roundw
        case rel => exact ⟨k + 1, by omega, by go_num, m, d, ln, lc, B, Lp, C, rfl, V1.out, R1.out, Z1.out, C0.out, by have := L0.out; omega, B0.out, P0.out, HB1.out⟩
        case measure => simp [intOf]; omega
      · have d5 : decide (5 < (T.kind.toNat : Int) % 8) = false := by simp; omega
        have DO := hide (do_any rm B m d C T _ (by omega) R1.out (by omega))
        unfold DoCache at DO
        obtain ⟨C', hC'⟩ : ∃ C', doL rm C T = C' := ⟨_, rfl⟩
        rw [hC'] at DO
        have HC := hide hC'
        have SZ := hide (show wn.heap.size < wr.heap.size from V0.out.lt)
        clear hC'
        by_cases hskip : 2 < T.kind.toNat % 8 ∨ T.id < 0 ∨ 1099511627776 < T.id
        · have hids : ids C' = ids C ∧ checkC rm C' = 0 ∧ C'.length ≤ k + 1 := by
            rw [← HC.out]
            unfold doL
            by_cases q3 : T.kind.toNat % 8 = 3
            · rw [if_pos q3]
              have := change_ids (id := T.id) C0.out pin_ok
              exact ⟨this.1, this.2.1, by rw [this.2.2]; omega⟩
            · rw [if_neg q3]
              by_cases q4 : T.kind.toNat % 8 = 4
              · rw [if_pos q4]
                have := change_ids (id := T.id) C0.out unpin_ok
                exact ⟨this.1, this.2.1, by rw [this.2.2]; omega⟩
              · rw [if_neg q4]
                by_cases q5 : T.kind.toNat % 8 = 5
                · rw [if_pos q5]
                  have := change_ids (id := T.id) C0.out (mark_ok T.dirty)
                  exact ⟨this.1, this.2.1, by rw [this.2.2]; omega⟩
                · rw [if_neg q5]
                  have : inR T.id = false := by
                    unfold inR
                    exact decide_eq_false (by omega)
                  rw [touch_out this]
                  exact ⟨rfl, C0.out, by omega⟩
          have HI := hide hids
          have hd : (decide (2 < (T.kind.toNat : Int) % 8) = true) ∨ (decide (2 < (T.kind.toNat : Int) % 8) = false ∧ decide (T.id < 0) = true) ∨ (decide (2 < (T.kind.toNat : Int) % 8) = false ∧ decide (T.id < 0) = false ∧ decide (1099511627776 < T.id) = true) := by
            simp only [decide_eq_true_eq, decide_eq_false_iff_not]
            omega
          clear hids hskip hkd
          rcases hd with d2 | ⟨d2, d3⟩ | ⟨d2, d3, d4⟩
          all_goals
            go_wp2_with (
              go_at_call 15
              refine DO.out.mono ?_
              rintro r w2 ⟨A2, n2, c2, err, rfl, hown, hb2⟩
              have V2 := hide (V1.out.below hb2 V1.out.lt)
              have VA2 := hide (VA.out.below hb2 VA.out.lt)
              have R2 := hide (Rit.of_own hown)
              have Z2 := hide (Z1.out.below hb2)
              have HB2 := hide (Below.then_ HB1.out hb2)
              have G2 := hide (show ∀ a, A2 = some a → a.block ≠ wn.heap.size from fun a ha e => by
                have h1 := (own_lt hown a.block (by rw [ha]; rfl)).1
                have h2 := SZ.out
                simp at h1
                omega)
              obtain ⟨t0, t1, s0, s1⟩ := V2.out.two
              obtain ⟨v0, v1, v2, v3⟩ := VA2.out.four
              have ne1 : ¬ wn.heap.size = wr.heap.size := by have := SZ.out; omega
              have ne2 : ¬ wr.heap.size = wn.heap.size := by have := SZ.out; omega
              clear hown hb2)
            go_roundw
            case rel =>
              refine ⟨k + 1, by omega, by go_num, n2, c2, ln, lc, A2, Lp, C', rfl, ?_, Rd.setCell (Rd.setCell R2.out (fun a ha _ e => G2.out a ha e.symm) _) (fun a ha _ e => G2.out a ha e.symm) _, ?_, HI.out.2.1, HI.out.2.2, G2.out, P0.out, (HB2.out.setCell (by have := HBN.out.size; simpa using this) _).setCell (by have := HBN.out.size; simpa using this) _⟩
              · have Z := (V2.out.set_ 0 (.int .i64 rm)).set_ 1 (.slice A2 n2 c2)
                simp only [List.set_cons_zero, List.set_cons_succ] at Z
                exact Z
              · rw [HI.out.1]
                exact Rd.setCell (Rd.setCell Z2.out (fun a ha _ e => P0.out a ha e.symm) _) (fun a ha _ e => P0.out a ha e.symm) _
            case measure => simp [intOf]; omega
        · have hir : inR T.id = true := by unfold inR; exact decide_eq_true (by omega)
          have hq2 : T.kind.toNat % 8 ≤ 2 := by omega
          have hids : ids C' = lastL (ids C) T.id ∧ checkC rm C' = 0 ∧ C'.length ≤ k + 1 := by
            rw [← HC.out]
            unfold doL
            rw [if_neg (by omega), if_neg (by omega), if_neg (by omega)]
            have := touch_ids C0.out hir (by omega)
            exact ⟨this.1, this.2.1, by omega⟩
          have HI := hide hids
          have d2 : decide (2 < (T.kind.toNat : Int) % 8) = false := by simp; omega
          have d3 : decide (T.id < 0) = false := by simp; omega
          have d4 : decide (1099511627776 < T.id) = false := by simp; omega
          clear hids hskip hkd hir hq2
          go_wp2_with (
            go_at_call 15
            refine DO.out.mono ?_
            rintro r w2 ⟨A2, n2, c2, err, rfl, hown, hb2⟩
            have V2 := hide (V1.out.below hb2 V1.out.lt)
            have VA2 := hide (VA.out.below hb2 VA.out.lt)
            have R2 := hide (Rit.of_own hown)
            have Z2 := hide (Z1.out.below hb2)
            have HB2 := hide (Below.then_ HB1.out hb2)
            have G2 := hide (show ∀ a, A2 = some a → a.block ≠ wn.heap.size from fun a ha e => by
              have h1 := (own_lt hown a.block (by rw [ha]; rfl)).1
              have h2 := SZ.out
              simp at h1
              omega)
            obtain ⟨t0, t1, s0, s1⟩ := V2.out.two
            obtain ⟨v0, v1, v2, v3⟩ := VA2.out.four
            have ne1 : ¬ wn.heap.size = wr.heap.size := by have := SZ.out; omega
            have ne2 : ¬ wr.heap.size = wn.heap.size := by have := SZ.out; omega
            clear hown hb2 g0 g1 g2 g3)
          obtain ⟨W3, hW3⟩ : ∃ W3, (w2.setCell ⟨wn.heap.size, 0, none⟩ (.int .i64 rm)).setCell ⟨wn.heap.size, 1, none⟩ (.slice A2 n2 c2) = W3 := ⟨_, rfl⟩
          have V3 := hide (show Vk W3 wn.heap.size 28 [.int .i64 rm, .slice A2 n2 c2] from by
            have Z := (V2.out.set_ 0 (.int .i64 rm)).set_ 1 (.slice A2 n2 c2)
            simp only [List.set_cons_zero, List.set_cons_succ] at Z
            rw [← hW3]
            exact Z)
          have VA3 := hide (show Vk W3 wr.heap.size 44 [.int .u8 (T.kind.toNat : Int), .int .i64 T.id, .int .i64 T.tow, .bool T.dirty] from by
            rw [← hW3]
            exact (VA2.out.far (by simp; omega) _).far (by simp; omega) _)
          have R3 := hide (show Rit W3 A2 n2 C' from by
            rw [← hW3]
            exact Rd.setCell (Rd.setCell R2.out (fun a ha _ e => G2.out a ha e.symm) _) (fun a ha _ e => G2.out a ha e.symm) _)
          have Z3 := hide (show Ri W3 Lp ln (ids C) from by
            rw [← hW3]
            exact Rd.setCell (Rd.setCell Z2.out (fun a ha _ e => P0.out a ha e.symm) _) (fun a ha _ e => P0.out a ha e.symm) _)
          have HB3 := hide (show Below w.heap.size w W3 from by
            rw [← hW3]
            exact (HB2.out.setCell (by have := HBN.out.size; simpa using this) _).setCell (by have := HBN.out.size; simpa using this) _)
          have P3 := hide (show wn.heap.size < W3.heap.size from V3.out.lt)
          rw [hW3]
          clear hW3 t0 t1 s0 s1 v0 v1 v2 v3 ne1 ne2
          go_loopw [10, 11] (fun ke i wy => ∃ (j kn kc : Nat) (K : Option Addr), j ≤ ln ∧ i = .int .i64 j ∧ ke = .slice K kn kc ∧ wy.ownsRow W3.heap.size 3 1 (.slice K kn kc) kn (iis (((ids C).take j).filter (fun x => decide (x ≠ T.id)))) ∧ kn ≤ j ∧ Below W3.heap.size W3 wy) (fun _ i _ => ln - (intOf i).toNat)
          case atStart => exact ⟨0, 0, 0, none, Nat.zero_le _, rfl, rfl, World.ownsRow_nil _ _ _ _, Nat.le_refl _, Below.refl _ _⟩
          case round =>
            obtain ⟨j, kn, kc, K, hj, rfl, rfl, hown, hkn2, hby⟩ := hrel
            have OK := hide hown
            have HY := hide hby
            obtain ⟨u0, u1, u2, u3⟩ := (VA3.out.below hby VA3.out.lt).four
            have ZY := hide (Z3.out.below hby)
            clear hown hby
            by_cases hjl : j < ln
            · obtain ⟨bz, oz, hLpz, _, gz⟩ := ZY.out.at_ hjl
              have hji : (j : Int) < (ln : Int) := by omega
              have hj0 : (0 : Int) ≤ (j : Int) := by omega
              have hts : ((ids C).take (j + 1)).filter (fun x => decide (x ≠ T.id)) = ((ids C).take j).filter (fun x => decide (x ≠ T.id)) ++ (if (ids C).getD j 0 = T.id then [] else [(ids C).getD j 0]) := by
                have hjl2 : j < (ids C).length := by simp [ids]; omega
                rw [List.take_add_one, List.getElem?_eq_getElem hjl2, List.filter_append]
                congr 1
                have e : (ids C).getD j 0 = (ids C)[j] := by simp [List.getD, hjl2]
                rw [e]
                by_cases hx : (ids C)[j] = T.id <;> simp [hx]
              obtain ⟨z, hz⟩ : ∃ z, (ids C).getD j 0 = z := ⟨_, rfl⟩
              rw [hz] at hts gz
              have HTS := hide hts
              subst hLpz
              clear hts hz
              by_cases hzi : z = T.id
              · have dz : (z != T.id) = false := by simp [hzi]
                have HZ := hide hzi
                clear hzi
                go_wp2_with fail
                go_quiet (fail)
                all_goals (
                  go_wp2_with fail
                  go_roundw
                  case rel => exact ⟨j + 1, kn, kc, K, by omega, by go_num, rfl, by rw [HTS.out, if_pos HZ.out, List.append_nil]; exact own_below OK.out (Below.drewN' (Below.refl _ _) _), by omega, Below.drewN' HY.out _⟩
                  case measure => simp [intOf]; omega)
              · have dz : (z != T.id) = true := by simp [hzi]
                have HZ := hide hzi
                clear hzi
                go_wp2_with fail
                go_quiet (fail)
                all_goals (
                  go_wp2_with (
                    (with_reducible show wpList _ _ _ (⟨some 85, _, _, _, _, _⟩ :: _) _ _)
                    go_loud (
                    refine wpList_app rfl (.tmp 79) (.tmp 84) 42 rfl W3.heap.size 3 (.int .i64 0) 1 8 Try.underlying42 info3 rfl (by omega) K kc kn (iis (((ids C).take j).filter (fun x => decide (x ≠ T.id)))) rfl ((own_below OK.out (Below.drewN' (Below.refl _ _) _)).alloc _) _ 1 _ (iis [z]) rfl ((Vk.new _ 3 [.int .i64 z]).rd 1 1 rfl) (iis_one _) (by unfold maxLen; omega) (by omega) (by have := HY.out.size; simp; omega) ?_
                    intro A5 c5 w5 hown hgr hzz
                    clear hzz
                    have HY5 := hide (Below.grown (Below.alloc (Below.drewN' HY.out _) HY.out.size _) hgr (by have := HY.out.size; simp; omega) (fun q hq => (own_lt OK.out q hq).1))
                    rw [← iis_app] at hown
                    have O5 := hide hown
                    clear hown hgr))
                  go_roundw
                  case rel => exact ⟨j + 1, kn + 1, c5, A5, by omega, by go_num, rfl, by rw [HTS.out, if_neg HZ.out]; exact O5.out, by omega, HY5.out⟩
                  case measure => simp [intOf]; omega)
            · obtain rfl : j = ln := by omega
              have htk : ((ids C).take j).filter (fun x => decide (x ≠ T.id)) ++ [T.id] = ids C' := by
                rw [HI.out.1, List.take_of_length_le (by simp [ids]; omega)]
                rfl
              have HTK := hide htk
              clear htk
              go_wp2_with (
                (with_reducible show wpList _ _ _ (⟨some 90, _, _, _, _, _⟩ :: _) _ _)
                go_loud (
                refine wpList_app rfl (.tmp 86) (.tmp 89) 42 rfl W3.heap.size 3 (.int .i64 0) 1 8 Try.underlying42 info3 rfl (by omega) K kc kn (iis (((ids C).take j).filter (fun x => decide (x ≠ T.id)))) rfl (OK.out.alloc _) _ 1 _ (iis [T.id]) rfl ((Vk.new _ 3 [.int .i64 T.id]).rd 1 1 rfl) (iis_one _) (by unfold maxLen; omega) (by omega) (by have := HY.out.size; simp; omega) ?_
                intro A6 c6 w6 hown hgr hzz
                have ne : ∀ q, q < W3.heap.size → some q ≠ (Value.slice K kn kc).ownBlock := fun q hq e => by have := (own_lt OK.out q e.symm).1; omega
                have HY6 := hide (Below.grown (Below.alloc HY.out HY.out.size _) hgr (by have := HY.out.size; simp; omega) (fun q hq => (own_lt OK.out q hq).1))
                rw [← iis_app, HTK.out] at hown
                have O6 := hide hown
                clear hown hgr hzz ne))
              go_roundw
              case rel =>
                refine ⟨k + 1, by omega, by go_num, n2, c2, kn + 1, c6, A2, A6, C', rfl, V3.out.below HY6.out V3.out.lt, R3.out.below HY6.out, Rd.of_own O6.out, HI.out.2.1, HI.out.2.2, G2.out, fun a ha e => ?_, Below.then_ HB3.out HY6.out⟩
                have h1 := (own_lt O6.out a.block (by rw [ha]; rfl)).1
                have h2 := P3.out
                omega
              case measure => simp [intOf]; omega
    · obtain rfl : k = n := by omega
      have CK := hide (check_any rm B m d C wr (by omega) R0.out)
      rw [C0.out] at CK
      have hmn : ((m : Int) != (ln : Int)) = false := by rw [bne_eq_false_iff_eq]; omega
      clear hbr
      go_wp2_with (first
        | (
           go_at_call 11
           refine CK.out.mono ?_
           rintro r w2 ⟨rfl, hb2⟩
           have V2 := hide (V0.out.below hb2 V0.out.lt)
           have R2 := hide (R0.out.below hb2)
           have Z2 := hide (Z0.out.below hb2)
           have HB2 := hide (Below.then_ HB0.out hb2)
           obtain ⟨t0, t1, _, _⟩ := V2.out.two
           clear hb2))
      go_loopw [12] (fun i wy => ∃ j : Nat, j ≤ ln ∧ i = .int .i64 j ∧ Below w2.heap.size w2 wy) (fun i _ => ln - (intOf i).toNat)
      case atStart => exact ⟨0, Nat.zero_le _, rfl, Below.refl _ _⟩
      case round =>
        obtain ⟨j, hj, rfl, hby⟩ := hrel
        have HY := hide hby
        have V3 := hide (V2.out.below hby V2.out.lt)
        obtain ⟨s0, s1, _, _⟩ := V3.out.two
        by_cases hjl : j < ln
        · obtain ⟨bz, oz, hLpz, _, gz⟩ := (Z2.out.below hby).at_ hjl
          obtain ⟨bi, oi, hBi, _, gi, _, _⟩ := (R2.out.below hby).at_ (k := j) (by omega)
          subst hLpz
          subst hBi
          have hji : (j : Int) < (ln : Int) := by omega
          have hjm : (j : Int) < (m : Int) := by omega
          have hj0 : (0 : Int) ≤ (j : Int) := by omega
          have he : (ids C).getD j 0 = (nthI C j).id := by simp [ids, nthI, List.getD, show j < C.length by omega]
          rw [he] at gz
          have dd : ((nthI C j).id != (nthI C j).id) = false := by simp
          clear hby he
          go_wp2_with fail
          go_quiet (fail)
          all_goals (
            go_wp2_with fail
            go_roundw
            case rel => exact ⟨j + 1, by omega, by go_num, Below.drewN' HY.out _⟩
            case measure => simp [intOf]; omega)
        · obtain rfl : j = ln := by omega
          clear hby
          go_wp2_with (go_at_call 6; refine (awake_any _).mono ?_; rintro r w9 ⟨rfl, hb9⟩)
          go_ret
          exact ⟨rfl, Below.then_ (Below.then_ HB2.out HY.out) hb9⟩
end Go.Proofs.Ytiaahlkhpghnnaa

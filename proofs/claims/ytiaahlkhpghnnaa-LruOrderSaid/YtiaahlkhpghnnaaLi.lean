/- The walks of what changes an item: pin, unpin, the closures of Mark and Rename; change at each of them; Pin, Unpin, Mark, Rename. -/
import Derived.Test.YtiaahlkhpghnnaaLh
namespace Go.Proofs.Ytiaahlkhpghnnaa
open Go.RowKit Go.Instr

/-- What a change makes of an item, and whether it is told. -/
def pinD (t : It) : Int × It := if 1099511627776 ≤ t.pins then (9, t) else (0, ⟨t.id, wrap64 (t.pins + 1), t.dirty⟩)
def unpinD (t : It) : Int × It := if t.pins ≤ 0 then (14, t) else (0, ⟨t.id, wrap64 (t.pins - 1), t.dirty⟩)
def markD (d : Bool) (t : It) : Int × It := (0, ⟨t.id, t.pins, d⟩)
def renD (other : Bool) (tow : Int) (t : It) : Int × It := if other = true then (12, t) else if inR tow = false then (9, t) else (0, ⟨tow, t.pins, t.dirty⟩)
/-- An item was changed where it lies, in one field or none. -/
def DoPost (g o : Nat) (T : It) (r : Int × It) (W : World) (e : Ending) (W' : World) : Prop :=
  e = .returned (.int .i64 r.1) ∧ ((W' = W ∧ r.2 = T) ∨ ∃ f u, f < 3 ∧ u.oneCell' = true ∧ W' = W.setCell ⟨g, o + f, none⟩ u ∧ itC r.2 = (itC T).set f u)
/-- An item lies here, and may be written. -/
def ItAt (W : World) (g o : Nat) (T : It) : Prop :=
  W.cell? ⟨g, o, none⟩ = some (.int .i64 T.id) ∧ W.cell? ⟨g, o + 1, none⟩ = some (.int .i64 T.pins) ∧ W.cell? ⟨g, o + 2, none⟩ = some (.bool T.dirty) ∧ W.frozen? ⟨g, o, none⟩ = false ∧ W.frozen? ⟨g, o + 1, none⟩ = false ∧ W.frozen? ⟨g, o + 2, none⟩ = false
theorem pin_any (g o : Nat) (T : It) (W : World) (h : ItAt W g o T) : Calls Try.prog 34 #[.pointer (some ⟨g, o, none⟩)] W (DoPost g o T (pinD T) W) := by
  obtain ⟨h0, h1, h2, f0, f1, f2⟩ := h
  unfold pinD
  by_cases hp : 1099511627776 ≤ T.pins
  · rw [if_pos hp]
    go_enter Try.func34, Try.ntmps34
    go_wp2_with fail
    go_ret
    exact ⟨rfl, .inl ⟨rfl, rfl⟩⟩
  · rw [if_neg hp]
    go_enter Try.func34, Try.ntmps34
    go_wp2_with fail
    go_ret
    exact ⟨rfl, .inr ⟨1, _, by omega, rfl, rfl, rfl⟩⟩
theorem unpin_any (g o : Nat) (T : It) (W : World) (h : ItAt W g o T) : Calls Try.prog 35 #[.pointer (some ⟨g, o, none⟩)] W (DoPost g o T (unpinD T) W) := by
  obtain ⟨h0, h1, h2, f0, f1, f2⟩ := h
  unfold unpinD
  by_cases hp : T.pins ≤ 0
  · rw [if_pos hp]
    go_enter Try.func35, Try.ntmps35
    go_wp2_with fail
    go_ret
    exact ⟨rfl, .inl ⟨rfl, rfl⟩⟩
  · rw [if_neg hp]
    go_enter Try.func35, Try.ntmps35
    go_wp2_with fail
    go_ret
    exact ⟨rfl, .inr ⟨1, _, by omega, rfl, rfl, rfl⟩⟩
theorem mark_any (g o : Nat) (T : It) (p : Addr) (d : Bool) (W : World) (h : ItAt W g o T) (hd : W.cell? p = some (.bool d)) : Calls Try.prog 36 #[.pointer (some ⟨g, o, none⟩), .pointer (some p)] W (DoPost g o T (markD d T) W) := by
  obtain ⟨h0, h1, h2, f0, f1, f2⟩ := h
  unfold markD
  go_enter Try.func36, Try.ntmps36
  go_wp2_with fail
  go_ret
  exact ⟨rfl, .inr ⟨2, _, by omega, rfl, rfl, rfl⟩⟩
theorem ren_any (g o : Nat) (T : It) (p q : Addr) (other : Bool) (tow : Int) (W : World) (h : ItAt W g o T) (hp : W.cell? p = some (.bool other)) (hq : W.cell? q = some (.int .i64 tow)) :
    Calls Try.prog 37 #[.pointer (some ⟨g, o, none⟩), .pointer (some p), .pointer (some q)] W (DoPost g o T (renD other tow T) W) := by
  obtain ⟨h0, h1, h2, f0, f1, f2⟩ := h
  have IN := hide (fun w => in_any' tow w)
  unfold renD
  cases other
  · rw [if_neg (by simp)]
    obtain ⟨k, hk⟩ : ∃ k, inR tow = k := ⟨_, rfl⟩
    rw [hk] at IN ⊢
    cases k
    · rw [if_pos rfl]
      go_enter Try.func37, Try.ntmps37
      go_wp2_with (go_at_call 25; refine (IN.out _).mono ?_; rintro r w9 ⟨rfl, rfl⟩)
      go_ret
      exact ⟨rfl, .inl ⟨rfl, rfl⟩⟩
    · rw [if_neg (by simp)]
      go_enter Try.func37, Try.ntmps37
      go_wp2_with (go_at_call 25; refine (IN.out _).mono ?_; rintro r w9 ⟨rfl, rfl⟩)
      go_ret
      exact ⟨rfl, .inr ⟨0, _, by omega, rfl, rfl, rfl⟩⟩
  · rw [if_pos rfl]
    go_enter Try.func37, Try.ntmps37
    go_wp2_with fail
    go_ret
    exact ⟨rfl, .inl ⟨rfl, rfl⟩⟩
theorem its_set (L : List It) : ∀ (i f : Nat) (u : Value) (T : It), i < L.length → f < 3 → itC T = (itC (nthI L i)).set f u → (its L).set (i * 3 + f) u = its (L.set i T) := by
  induction L with
  | nil => intro i f u T h; simp at h
  | cons a l ih =>
    intro i f u T h hf hT
    cases i with
    | zero =>
      have e : nthI (a :: l) 0 = a := rfl
      rw [e] at hT
      show (itC a ++ its l).set (0 * 3 + f) u = itC T ++ its l
      rw [hT, List.set_append_left _ _ (by simp [itC]; omega)]
      congr 2
      omega
    | succ i =>
      have e : nthI (a :: l) (i + 1) = nthI l i := by simp [nthI]
      rw [e] at hT
      show (itC a ++ its l).set ((i + 1) * 3 + f) u = itC a ++ its (l.set i T)
      rw [List.set_append_right _ _ (by simp [itC]; omega), ← ih i f u T (by simpa using h) hf hT]
      congr 2
      simp [itC]; omega
/-- The row in which an item was changed. -/
theorem own_done {W W' : World} {base g c n i : Nat} {L : List It} {r : Int × It} {e : Ending} (h : W.ownsRow base 47 3 (.slice (some ⟨g, 0, none⟩) n c) n (its L)) (hi : i < n) (hd : DoPost g (i * 3) (nthI L i) r W e W') :
    W'.ownsRow base 47 3 (.slice (some ⟨g, 0, none⟩) n c) n (its (L.set i r.2)) ∧ W.grownBy W' (some g) := by
  have hl : L.length = n := by have := h.1; rw [its_length] at this; omega
  obtain ⟨_, ⟨rfl, h2⟩ | ⟨f, u, hf, hu, rfl, hr⟩⟩ := hd
  · have : L.set i r.2 = L := by
      rw [h2]
      apply List.ext_getElem (by simp)
      intro j h1 h2
      rw [List.getElem_set]
      split
      · rename_i hij; subst hij; simp [nthI, List.getD, h2]
      · rfl
    rw [this]
    exact ⟨h, World.grownBy.refl _ _⟩
  · have hst := h.stored (i * 3 + f) u
    rw [its_set L i f u r.2 (by omega) hf hr] at hst
    exact hst
theorem own_it {W : World} {base g c n i : Nat} {L : List It} (h : W.ownsRow base 47 3 (.slice (some ⟨g, 0, none⟩) n c) n (its L)) (hi : i < n) : ItAt W g (i * 3) (nthI L i) := by
  obtain ⟨_, h0, h1, h2⟩ := (Rit.of_own h).cells hi
  rw [Nat.zero_add] at h0 h1 h2
  exact ⟨h0, h1, h2, h.frozenAt _, h.frozenAt _, h.frozenAt _⟩
/-- What a change of a number's item leaves, and why not. -/
def changeR (d : It → Int × It) (L : List It) (id : Int) : List It × Int :=
  if place L id < 0 then (L, 6) else (L.set (place L id).toNat (d (nthI L (place L id).toNat)).2, (d (nthI L (place L id).toNat)).1)
def ChangePost (room : Int) (r : List It × Int) (w : World) (e : Ending) (w' : World) : Prop :=
  ∃ A n c, e = .returned (.tuple #[.agg #[.int .i64 room, .slice A n c], .int .i64 r.2]) ∧ w'.ownsRow w.heap.size 47 3 (.slice A n c) n (its r.1) ∧ Below w.heap.size w w'
set_option maxHeartbeats 4000000 in
theorem pin_none (room : Int) (A : Option Addr) (n c : Nat) (L : List It) (id : Int) (w : World) (hn : n ≤ 1000) (h : Rit w A n L) (hp : place L id = -1) :
    Calls Try.prog 33 #[.agg #[.int .i64 room, .slice A n c], .int .i64 id, .func (.func 34) #[] #[]] w (ChangePost room (L, 6) w) := by
  have H := hide h
  have HL := hide h.len
  obtain ⟨V1, V2⟩ := boxes2 w 28 28 [.int .i64 room, .slice A n c] [.int .i64 0, .slice none 0 0]
  have B1 := hide V1
  have B2 := hide V2
  have HB0 := hide (Below.al (Below.al (Below.refl w.heap.size w) (.cells #[.int .i64 room, .slice A n c] 28)) (.cells #[.int .i64 0, .slice none 0 0] 28))
  have OW := hide (own_any room A n c L _ (by omega) (H.out.below HB0.out))
  unfold CachePost at OW
  have HP := hide hp
  clear h V1 V2 hp
  go_enter Try.func33, Try.ntmps33
  go_wp2_with (first
    | (
       go_at_call 30
       refine OW.out.mono ?_
       rintro r w1 ⟨A1, n1, c1, rfl, hown, hb1⟩
       obtain rfl : n1 = n := by have := hown.1; rw [its_length, HL.out] at this; omega
       have O1 := hide hown
       have V2' := hide (B2.out.below hb1 B2.out.lt)
       have HB1 := hide (Below.then_ HB0.out hb1)
       have hsz := hide (show w.heap.size + 2 ≤ w1.heap.size by have := hb1.size; simpa using this)
       have V5 := hide (Vk.new w1 28 [.int .i64 room, .slice A1 n1 c1])
       clear hown hb1)
    | (
       go_at_call 31
       refine (place_any room A1 n1 c1 L id _ (by omega) (Rit.of_own (O1.out.alloc _))).mono ?_
       rintro r w2 ⟨rfl, hb2⟩
       rw [HP.out]
       have V2f := hide ((V2'.out.alloc _).below hb2 (V2'.out.alloc _).lt)
       have V5f := hide (V5.out.below hb2 V5.out.lt)
       have HB2 := hide (Below.then_ (Below.al HB1.out _) hb2)
       have hsz2 := hide (show w1.heap.size + 1 ≤ w2.heap.size by have := hb2.size; simpa using this)
       have O2 := hide (own_below (O1.out.alloc (.cells #[.int .i64 room, .slice A1 n1 c1] 28)) hb2)
       obtain ⟨p0, p1, _, _⟩ := V5f.out.two
       obtain ⟨t0, t1, s0, s1⟩ := V2f.out.two
       clear hb2))
  have Z := (V2f.out.set_ 0 (.int .i64 room)).set_ 1 (.slice A1 n1 c1)
  simp only [List.set_cons_zero, List.set_cons_succ] at Z
  obtain ⟨d0, d1, _⟩ := Z.two
  refine bodyPost_ret (v := .tuple #[.agg #[.int .i64 room, .slice A1 n1 c1], .int .i64 6]) (by simp [results, Try.results33, go_sem, d0, d1]) rfl ⟨A1, n1, c1, rfl, ?_, ?_⟩
  · exact own_far (own_far O2.out (by simp) (Nat.le_refl _) _) (by simp) (by simp; omega) _
  · exact (HB2.out.setCell (by simp) _).setCell (by simp) _
set_option maxHeartbeats 4000000 in
theorem pin_some (room : Int) (A : Option Addr) (n c : Nat) (L : List It) (id : Int) (i : Nat) (w : World) (hn : n ≤ 1000) (h : Rit w A n L) (hp : place L id = i) (hi : i < n) :
    Calls Try.prog 33 #[.agg #[.int .i64 room, .slice A n c], .int .i64 id, .func (.func 34) #[] #[]] w (ChangePost room (L.set i (pinD (nthI L i)).2, (pinD (nthI L i)).1) w) := by
  have hiN : (i : Int) < (n : Int) := by omega
  have hi0 : (0 : Int) ≤ (i : Int) := by omega
  have H := hide h
  have HL := hide h.len
  obtain ⟨V1, V2⟩ := boxes2 w 28 28 [.int .i64 room, .slice A n c] [.int .i64 0, .slice none 0 0]
  have B1 := hide V1
  have B2 := hide V2
  have HB0 := hide (Below.al (Below.al (Below.refl w.heap.size w) (.cells #[.int .i64 room, .slice A n c] 28)) (.cells #[.int .i64 0, .slice none 0 0] 28))
  have OW := hide (own_any room A n c L _ (by omega) (H.out.below HB0.out))
  unfold CachePost at OW
  have HP := hide hp
  obtain ⟨R, hR⟩ : ∃ R, pinD (nthI L i) = R := ⟨_, rfl⟩
  have HR := hide hR
  rw [hR]
  obtain ⟨E, T⟩ := R
  dsimp only
  have de : E = 0 ∨ (E != 0) = true := by
    by_cases h0 : E = 0
    · exact .inl h0
    · exact .inr (by simp [h0])
  clear h V1 V2 hp hR
  rcases de with rfl | de
  all_goals
    go_enter Try.func33, Try.ntmps33
    go_wp2_with (first
      | (
       go_at_call 30
       refine OW.out.mono ?_
       rintro r w1 ⟨A1, n1, c1, rfl, hown, hb1⟩
       obtain rfl : n1 = n := by have := hown.1; rw [its_length, HL.out] at this; omega
       obtain ⟨g, cap, hv, hgg, _⟩ := hown.form (by omega)
       cases hv
       have O1 := hide hown
       have V2' := hide (B2.out.below hb1 B2.out.lt)
       have HB1 := hide (Below.then_ HB0.out hb1)
       have hsz := hide (show w.heap.size + 2 ≤ w1.heap.size by have := hb1.size; simpa using this)
       have V5 := hide (Vk.new w1 28 [.int .i64 room, .slice (some ⟨g, 0, none⟩) n1 c1])
       clear hown hb1
       clear hgg)
      | (
       go_at_call 31
       refine (place_any room (some ⟨g, 0, none⟩) n1 c1 L id _ (by omega) (Rit.of_own (O1.out.alloc _))).mono ?_
       rintro r w2 ⟨rfl, hb2⟩
       rw [HP.out]
       have V2f := hide ((V2'.out.alloc _).below hb2 (V2'.out.alloc _).lt)
       have V5f := hide (V5.out.below hb2 V5.out.lt)
       have HB2 := hide (Below.then_ (Below.al HB1.out _) hb2)
       have hsz2 := hide (show w1.heap.size + 1 ≤ w2.heap.size by have := hb2.size; simpa using this)
       have O2 := hide (own_below (O1.out.alloc (.cells #[.int .i64 room, .slice (some ⟨g, 0, none⟩) n1 c1] 28)) hb2)
       obtain ⟨p0, p1, _, _⟩ := V5f.out.two
       obtain ⟨t0, t1, s0, s1⟩ := V2f.out.two
       clear hb2)
      | (
       go_at_call 34
       have DD := pin_any g (i * 3) (nthI L i) w2 (own_it O2.out hi)
       rw [HR.out] at DD
       refine DD.mono ?_
       rintro r w3 ⟨rfl, hdd⟩
       obtain ⟨ho, hgr⟩ := own_done O2.out hi ⟨rfl, hdd⟩
       have gl := own_lt O1.out g rfl
       simp at gl
       have hs1 := hsz.out
       have V2g := hide (V2f.out.grown hgr (fun e => by injection e with e; omega))
       have V5g := hide (V5f.out.grown hgr (fun e => by injection e with e; omega))
       obtain ⟨a0, a1, _, _⟩ := V5g.out.two
       obtain ⟨b0, b1, k0, k1⟩ := V2g.out.two
       have HB3 := hide (HB2.out.grown hgr HB2.out.size (fun j hj => by obtain rfl : g = j := (by injection hj); omega))
       have O3 := hide ho
       clear ho hgr hdd gl DD hs1 p0 p1 t0 t1 s0 s1))
    have Z := (V2g.out.set_ 0 (.int .i64 room)).set_ 1 (.slice (some ⟨g, 0, none⟩) n1 c1)
    simp only [List.set_cons_zero, List.set_cons_succ] at Z
    obtain ⟨d0, d1, _⟩ := Z.two
  · refine bodyPost_ret (v := .tuple #[.agg #[.int .i64 room, .slice (some ⟨g, 0, none⟩) n1 c1], .int .i64 0]) (by simp [results, Try.results33, go_sem, d0, d1]) rfl ⟨some ⟨g, 0, none⟩, n1, c1, rfl, ?_, ?_⟩
    · exact own_far (own_far O3.out (by simp) (Nat.le_refl _) _) (by simp) (by simp; omega) _
    · exact (HB3.out.setCell (by simp) _).setCell (by simp) _
  · refine bodyPost_ret (v := .tuple #[.agg #[.int .i64 room, .slice (some ⟨g, 0, none⟩) n1 c1], .int .i64 E]) (by simp [results, Try.results33, go_sem, d0, d1]) rfl ⟨some ⟨g, 0, none⟩, n1, c1, rfl, ?_, ?_⟩
    · exact own_far (own_far O3.out (by simp) (Nat.le_refl _) _) (by simp) (by simp; omega) _
    · exact (HB3.out.setCell (by simp) _).setCell (by simp) _
theorem pin_ch (room : Int) (A : Option Addr) (n c : Nat) (L : List It) (id : Int) (w : World) (hn : n ≤ 1000) (h : Rit w A n L) :
    Calls Try.prog 33 #[.agg #[.int .i64 room, .slice A n c], .int .i64 id, .func (.func 34) #[] #[]] w (ChangePost room (changeR (pinD) L id) w) := by
  have hr := idxV_range (fun t => t.id == id) L
  have hl := h.len
  unfold changeR
  by_cases hp : place L id < 0
  · rw [if_pos hp]
    exact pin_none room A n c L id w hn h (by have := hr.1; unfold place at hp ⊢; omega)
  · rw [if_neg hp]
    exact pin_some room A n c L id (place L id).toNat w hn h (by omega) (by have := hr.2; unfold place at hp ⊢; omega)
set_option maxHeartbeats 4000000 in
theorem unpin_none (room : Int) (A : Option Addr) (n c : Nat) (L : List It) (id : Int) (w : World) (hn : n ≤ 1000) (h : Rit w A n L) (hp : place L id = -1) :
    Calls Try.prog 33 #[.agg #[.int .i64 room, .slice A n c], .int .i64 id, .func (.func 35) #[] #[]] w (ChangePost room (L, 6) w) := by
  have H := hide h
  have HL := hide h.len
  obtain ⟨V1, V2⟩ := boxes2 w 28 28 [.int .i64 room, .slice A n c] [.int .i64 0, .slice none 0 0]
  have B1 := hide V1
  have B2 := hide V2
  have HB0 := hide (Below.al (Below.al (Below.refl w.heap.size w) (.cells #[.int .i64 room, .slice A n c] 28)) (.cells #[.int .i64 0, .slice none 0 0] 28))
  have OW := hide (own_any room A n c L _ (by omega) (H.out.below HB0.out))
  unfold CachePost at OW
  have HP := hide hp
  clear h V1 V2 hp
  go_enter Try.func33, Try.ntmps33
  go_wp2_with (first
    | (
       go_at_call 30
       refine OW.out.mono ?_
       rintro r w1 ⟨A1, n1, c1, rfl, hown, hb1⟩
       obtain rfl : n1 = n := by have := hown.1; rw [its_length, HL.out] at this; omega
       have O1 := hide hown
       have V2' := hide (B2.out.below hb1 B2.out.lt)
       have HB1 := hide (Below.then_ HB0.out hb1)
       have hsz := hide (show w.heap.size + 2 ≤ w1.heap.size by have := hb1.size; simpa using this)
       have V5 := hide (Vk.new w1 28 [.int .i64 room, .slice A1 n1 c1])
       clear hown hb1)
    | (
       go_at_call 31
       refine (place_any room A1 n1 c1 L id _ (by omega) (Rit.of_own (O1.out.alloc _))).mono ?_
       rintro r w2 ⟨rfl, hb2⟩
       rw [HP.out]
       have V2f := hide ((V2'.out.alloc _).below hb2 (V2'.out.alloc _).lt)
       have V5f := hide (V5.out.below hb2 V5.out.lt)
       have HB2 := hide (Below.then_ (Below.al HB1.out _) hb2)
       have hsz2 := hide (show w1.heap.size + 1 ≤ w2.heap.size by have := hb2.size; simpa using this)
       have O2 := hide (own_below (O1.out.alloc (.cells #[.int .i64 room, .slice A1 n1 c1] 28)) hb2)
       obtain ⟨p0, p1, _, _⟩ := V5f.out.two
       obtain ⟨t0, t1, s0, s1⟩ := V2f.out.two
       clear hb2))
  have Z := (V2f.out.set_ 0 (.int .i64 room)).set_ 1 (.slice A1 n1 c1)
  simp only [List.set_cons_zero, List.set_cons_succ] at Z
  obtain ⟨d0, d1, _⟩ := Z.two
  refine bodyPost_ret (v := .tuple #[.agg #[.int .i64 room, .slice A1 n1 c1], .int .i64 6]) (by simp [results, Try.results33, go_sem, d0, d1]) rfl ⟨A1, n1, c1, rfl, ?_, ?_⟩
  · exact own_far (own_far O2.out (by simp) (Nat.le_refl _) _) (by simp) (by simp; omega) _
  · exact (HB2.out.setCell (by simp) _).setCell (by simp) _
set_option maxHeartbeats 4000000 in
theorem unpin_some (room : Int) (A : Option Addr) (n c : Nat) (L : List It) (id : Int) (i : Nat) (w : World) (hn : n ≤ 1000) (h : Rit w A n L) (hp : place L id = i) (hi : i < n) :
    Calls Try.prog 33 #[.agg #[.int .i64 room, .slice A n c], .int .i64 id, .func (.func 35) #[] #[]] w (ChangePost room (L.set i (unpinD (nthI L i)).2, (unpinD (nthI L i)).1) w) := by
  have hiN : (i : Int) < (n : Int) := by omega
  have hi0 : (0 : Int) ≤ (i : Int) := by omega
  have H := hide h
  have HL := hide h.len
  obtain ⟨V1, V2⟩ := boxes2 w 28 28 [.int .i64 room, .slice A n c] [.int .i64 0, .slice none 0 0]
  have B1 := hide V1
  have B2 := hide V2
  have HB0 := hide (Below.al (Below.al (Below.refl w.heap.size w) (.cells #[.int .i64 room, .slice A n c] 28)) (.cells #[.int .i64 0, .slice none 0 0] 28))
  have OW := hide (own_any room A n c L _ (by omega) (H.out.below HB0.out))
  unfold CachePost at OW
  have HP := hide hp
  obtain ⟨R, hR⟩ : ∃ R, unpinD (nthI L i) = R := ⟨_, rfl⟩
  have HR := hide hR
  rw [hR]
  obtain ⟨E, T⟩ := R
  dsimp only
  have de : E = 0 ∨ (E != 0) = true := by
    by_cases h0 : E = 0
    · exact .inl h0
    · exact .inr (by simp [h0])
  clear h V1 V2 hp hR
  rcases de with rfl | de
  all_goals
    go_enter Try.func33, Try.ntmps33
    go_wp2_with (first
      | (
       go_at_call 30
       refine OW.out.mono ?_
       rintro r w1 ⟨A1, n1, c1, rfl, hown, hb1⟩
       obtain rfl : n1 = n := by have := hown.1; rw [its_length, HL.out] at this; omega
       obtain ⟨g, cap, hv, hgg, _⟩ := hown.form (by omega)
       cases hv
       have O1 := hide hown
       have V2' := hide (B2.out.below hb1 B2.out.lt)
       have HB1 := hide (Below.then_ HB0.out hb1)
       have hsz := hide (show w.heap.size + 2 ≤ w1.heap.size by have := hb1.size; simpa using this)
       have V5 := hide (Vk.new w1 28 [.int .i64 room, .slice (some ⟨g, 0, none⟩) n1 c1])
       clear hown hb1
       clear hgg)
      | (
       go_at_call 31
       refine (place_any room (some ⟨g, 0, none⟩) n1 c1 L id _ (by omega) (Rit.of_own (O1.out.alloc _))).mono ?_
       rintro r w2 ⟨rfl, hb2⟩
       rw [HP.out]
       have V2f := hide ((V2'.out.alloc _).below hb2 (V2'.out.alloc _).lt)
       have V5f := hide (V5.out.below hb2 V5.out.lt)
       have HB2 := hide (Below.then_ (Below.al HB1.out _) hb2)
       have hsz2 := hide (show w1.heap.size + 1 ≤ w2.heap.size by have := hb2.size; simpa using this)
       have O2 := hide (own_below (O1.out.alloc (.cells #[.int .i64 room, .slice (some ⟨g, 0, none⟩) n1 c1] 28)) hb2)
       obtain ⟨p0, p1, _, _⟩ := V5f.out.two
       obtain ⟨t0, t1, s0, s1⟩ := V2f.out.two
       clear hb2)
      | (
       go_at_call 35
       have DD := unpin_any g (i * 3) (nthI L i) w2 (own_it O2.out hi)
       rw [HR.out] at DD
       refine DD.mono ?_
       rintro r w3 ⟨rfl, hdd⟩
       obtain ⟨ho, hgr⟩ := own_done O2.out hi ⟨rfl, hdd⟩
       have gl := own_lt O1.out g rfl
       simp at gl
       have hs1 := hsz.out
       have V2g := hide (V2f.out.grown hgr (fun e => by injection e with e; omega))
       have V5g := hide (V5f.out.grown hgr (fun e => by injection e with e; omega))
       obtain ⟨a0, a1, _, _⟩ := V5g.out.two
       obtain ⟨b0, b1, k0, k1⟩ := V2g.out.two
       have HB3 := hide (HB2.out.grown hgr HB2.out.size (fun j hj => by obtain rfl : g = j := (by injection hj); omega))
       have O3 := hide ho
       clear ho hgr hdd gl DD hs1 p0 p1 t0 t1 s0 s1))
    have Z := (V2g.out.set_ 0 (.int .i64 room)).set_ 1 (.slice (some ⟨g, 0, none⟩) n1 c1)
    simp only [List.set_cons_zero, List.set_cons_succ] at Z
    obtain ⟨d0, d1, _⟩ := Z.two
  · refine bodyPost_ret (v := .tuple #[.agg #[.int .i64 room, .slice (some ⟨g, 0, none⟩) n1 c1], .int .i64 0]) (by simp [results, Try.results33, go_sem, d0, d1]) rfl ⟨some ⟨g, 0, none⟩, n1, c1, rfl, ?_, ?_⟩
    · exact own_far (own_far O3.out (by simp) (Nat.le_refl _) _) (by simp) (by simp; omega) _
    · exact (HB3.out.setCell (by simp) _).setCell (by simp) _
  · refine bodyPost_ret (v := .tuple #[.agg #[.int .i64 room, .slice (some ⟨g, 0, none⟩) n1 c1], .int .i64 E]) (by simp [results, Try.results33, go_sem, d0, d1]) rfl ⟨some ⟨g, 0, none⟩, n1, c1, rfl, ?_, ?_⟩
    · exact own_far (own_far O3.out (by simp) (Nat.le_refl _) _) (by simp) (by simp; omega) _
    · exact (HB3.out.setCell (by simp) _).setCell (by simp) _
theorem unpin_ch (room : Int) (A : Option Addr) (n c : Nat) (L : List It) (id : Int) (w : World) (hn : n ≤ 1000) (h : Rit w A n L) :
    Calls Try.prog 33 #[.agg #[.int .i64 room, .slice A n c], .int .i64 id, .func (.func 35) #[] #[]] w (ChangePost room (changeR (unpinD) L id) w) := by
  have hr := idxV_range (fun t => t.id == id) L
  have hl := h.len
  unfold changeR
  by_cases hp : place L id < 0
  · rw [if_pos hp]
    exact unpin_none room A n c L id w hn h (by have := hr.1; unfold place at hp ⊢; omega)
  · rw [if_neg hp]
    exact unpin_some room A n c L id (place L id).toNat w hn h (by omega) (by have := hr.2; unfold place at hp ⊢; omega)
set_option maxHeartbeats 2000000 in
theorem Pin_any (room : Int) (A : Option Addr) (n c : Nat) (L : List It) (id : Int) (w : World) (hn : n ≤ 1000) (h : Rit w A n L) : Calls Try.prog 21 #[.agg #[.int .i64 room, .slice A n c], .int .i64 id] w (ChangePost room (changeR (pinD) L id) w) := by
  obtain ⟨V1, V2⟩ := boxes2 w 28 28 [.int .i64 room, .slice A n c] [.int .i64 0, .slice none 0 0]
  have B2 := hide V2
  have HB0 := hide (Below.al (Below.al (Below.refl w.heap.size w) (.cells #[.int .i64 room, .slice A n c] 28)) (.cells #[.int .i64 0, .slice none 0 0] 28))
  have CH := hide (pin_ch room A n c L id _ hn (h.below HB0.out))
  unfold ChangePost at CH
  obtain ⟨R, hR⟩ : ∃ R, changeR (pinD) L id = R := ⟨_, rfl⟩
  rw [hR] at CH ⊢
  obtain ⟨M, E⟩ := R
  dsimp only at CH
  clear h V1 V2 hR
  go_enter Try.func21, Try.ntmps21
  go_wp2_with (
    go_at_call 33
    refine CH.out.mono ?_
    rintro r w1 ⟨A1, n1, c1, rfl, hown, hb1⟩
    have O1 := hide hown
    have V2' := hide (B2.out.below hb1 B2.out.lt)
    obtain ⟨t0, t1, s0, s1⟩ := V2'.out.two
    have HB1 := hide (Below.then_ HB0.out hb1)
    clear hown hb1)
  have Z := (V2'.out.set_ 0 (.int .i64 room)).set_ 1 (.slice A1 n1 c1)
  simp only [List.set_cons_zero, List.set_cons_succ] at Z
  obtain ⟨d0, d1, _⟩ := Z.two
  refine bodyPost_ret (v := .tuple #[.agg #[.int .i64 room, .slice A1 n1 c1], .int .i64 E]) (by simp [results, Try.results21, go_sem, d0, d1]) rfl ⟨A1, n1, c1, rfl, ?_, ?_⟩
  · exact own_far (own_far O1.out (by simp) (Nat.le_refl _) _) (by simp) (by simp; omega) _
  · exact (HB1.out.setCell (by simp) _).setCell (by simp) _
set_option maxHeartbeats 2000000 in
theorem Unpin_any (room : Int) (A : Option Addr) (n c : Nat) (L : List It) (id : Int) (w : World) (hn : n ≤ 1000) (h : Rit w A n L) : Calls Try.prog 22 #[.agg #[.int .i64 room, .slice A n c], .int .i64 id] w (ChangePost room (changeR (unpinD) L id) w) := by
  obtain ⟨V1, V2⟩ := boxes2 w 28 28 [.int .i64 room, .slice A n c] [.int .i64 0, .slice none 0 0]
  have B2 := hide V2
  have HB0 := hide (Below.al (Below.al (Below.refl w.heap.size w) (.cells #[.int .i64 room, .slice A n c] 28)) (.cells #[.int .i64 0, .slice none 0 0] 28))
  have CH := hide (unpin_ch room A n c L id _ hn (h.below HB0.out))
  unfold ChangePost at CH
  obtain ⟨R, hR⟩ : ∃ R, changeR (unpinD) L id = R := ⟨_, rfl⟩
  rw [hR] at CH ⊢
  obtain ⟨M, E⟩ := R
  dsimp only at CH
  clear h V1 V2 hR
  go_enter Try.func22, Try.ntmps22
  go_wp2_with (
    go_at_call 33
    refine CH.out.mono ?_
    rintro r w1 ⟨A1, n1, c1, rfl, hown, hb1⟩
    have O1 := hide hown
    have V2' := hide (B2.out.below hb1 B2.out.lt)
    obtain ⟨t0, t1, s0, s1⟩ := V2'.out.two
    have HB1 := hide (Below.then_ HB0.out hb1)
    clear hown hb1)
  have Z := (V2'.out.set_ 0 (.int .i64 room)).set_ 1 (.slice A1 n1 c1)
  simp only [List.set_cons_zero, List.set_cons_succ] at Z
  obtain ⟨d0, d1, _⟩ := Z.two
  refine bodyPost_ret (v := .tuple #[.agg #[.int .i64 room, .slice A1 n1 c1], .int .i64 E]) (by simp [results, Try.results22, go_sem, d0, d1]) rfl ⟨A1, n1, c1, rfl, ?_, ?_⟩
  · exact own_far (own_far O1.out (by simp) (Nat.le_refl _) _) (by simp) (by simp; omega) _
  · exact (HB1.out.setCell (by simp) _).setCell (by simp) _
set_option maxHeartbeats 4000000 in
theorem mark_none (room : Int) (A : Option Addr) (n c : Nat) (L : List It) (id : Int) (p : Addr) (_d : Bool) (w : World) (hn : n ≤ 1000) (h : Rit w A n L) (hp : place L id = -1) :
    Calls Try.prog 33 #[.agg #[.int .i64 room, .slice A n c], .int .i64 id, .func (.func 36) #[] #[.pointer (some p)]] w (ChangePost room (L, 6) w) := by
  have H := hide h
  have HL := hide h.len
  obtain ⟨V1, V2⟩ := boxes2 w 28 28 [.int .i64 room, .slice A n c] [.int .i64 0, .slice none 0 0]
  have B1 := hide V1
  have B2 := hide V2
  have HB0 := hide (Below.al (Below.al (Below.refl w.heap.size w) (.cells #[.int .i64 room, .slice A n c] 28)) (.cells #[.int .i64 0, .slice none 0 0] 28))
  have OW := hide (own_any room A n c L _ (by omega) (H.out.below HB0.out))
  unfold CachePost at OW
  have HP := hide hp
  clear h V1 V2 hp
  go_enter Try.func33, Try.ntmps33
  go_wp2_with (first
    | (
       go_at_call 30
       refine OW.out.mono ?_
       rintro r w1 ⟨A1, n1, c1, rfl, hown, hb1⟩
       obtain rfl : n1 = n := by have := hown.1; rw [its_length, HL.out] at this; omega
       have O1 := hide hown
       have V2' := hide (B2.out.below hb1 B2.out.lt)
       have HB1 := hide (Below.then_ HB0.out hb1)
       have hsz := hide (show w.heap.size + 2 ≤ w1.heap.size by have := hb1.size; simpa using this)
       have V5 := hide (Vk.new w1 28 [.int .i64 room, .slice A1 n1 c1])
       clear hown hb1)
    | (
       go_at_call 31
       refine (place_any room A1 n1 c1 L id _ (by omega) (Rit.of_own (O1.out.alloc _))).mono ?_
       rintro r w2 ⟨rfl, hb2⟩
       rw [HP.out]
       have V2f := hide ((V2'.out.alloc _).below hb2 (V2'.out.alloc _).lt)
       have V5f := hide (V5.out.below hb2 V5.out.lt)
       have HB2 := hide (Below.then_ (Below.al HB1.out _) hb2)
       have hsz2 := hide (show w1.heap.size + 1 ≤ w2.heap.size by have := hb2.size; simpa using this)
       have O2 := hide (own_below (O1.out.alloc (.cells #[.int .i64 room, .slice A1 n1 c1] 28)) hb2)
       obtain ⟨p0, p1, _, _⟩ := V5f.out.two
       obtain ⟨t0, t1, s0, s1⟩ := V2f.out.two
       clear hb2))
  have Z := (V2f.out.set_ 0 (.int .i64 room)).set_ 1 (.slice A1 n1 c1)
  simp only [List.set_cons_zero, List.set_cons_succ] at Z
  obtain ⟨d0, d1, _⟩ := Z.two
  refine bodyPost_ret (v := .tuple #[.agg #[.int .i64 room, .slice A1 n1 c1], .int .i64 6]) (by simp [results, Try.results33, go_sem, d0, d1]) rfl ⟨A1, n1, c1, rfl, ?_, ?_⟩
  · exact own_far (own_far O2.out (by simp) (Nat.le_refl _) _) (by simp) (by simp; omega) _
  · exact (HB2.out.setCell (by simp) _).setCell (by simp) _
set_option maxHeartbeats 4000000 in
theorem mark_some (room : Int) (A : Option Addr) (n c : Nat) (L : List It) (id : Int) (p : Addr) (d : Bool) (i : Nat) (w : World) (hn : n ≤ 1000) (h : Rit w A n L) (hd : w.cell? p = some (.bool d)) (hp : place L id = i) (hi : i < n) :
    Calls Try.prog 33 #[.agg #[.int .i64 room, .slice A n c], .int .i64 id, .func (.func 36) #[] #[.pointer (some p)]] w (ChangePost room (L.set i (markD d (nthI L i)).2, (markD d (nthI L i)).1) w) := by
  have hiN : (i : Int) < (n : Int) := by omega
  have hi0 : (0 : Int) ≤ (i : Int) := by omega
  have H := hide h
  have HL := hide h.len
  obtain ⟨V1, V2⟩ := boxes2 w 28 28 [.int .i64 room, .slice A n c] [.int .i64 0, .slice none 0 0]
  have B1 := hide V1
  have B2 := hide V2
  have HB0 := hide (Below.al (Below.al (Below.refl w.heap.size w) (.cells #[.int .i64 room, .slice A n c] 28)) (.cells #[.int .i64 0, .slice none 0 0] 28))
  have OW := hide (own_any room A n c L _ (by omega) (H.out.below HB0.out))
  unfold CachePost at OW
  have HP := hide hp
  have HD := hide hd
  obtain ⟨R, hR⟩ : ∃ R, markD d (nthI L i) = R := ⟨_, rfl⟩
  have HR := hide hR
  rw [hR]
  obtain ⟨E, T⟩ := R
  dsimp only
  have de : E = 0 ∨ (E != 0) = true := by
    by_cases h0 : E = 0
    · exact .inl h0
    · exact .inr (by simp [h0])
  clear h V1 V2 hp hR
  rcases de with rfl | de
  all_goals
    go_enter Try.func33, Try.ntmps33
    go_wp2_with (first
      | (
       go_at_call 30
       refine OW.out.mono ?_
       rintro r w1 ⟨A1, n1, c1, rfl, hown, hb1⟩
       obtain rfl : n1 = n := by have := hown.1; rw [its_length, HL.out] at this; omega
       obtain ⟨g, cap, hv, hgg, _⟩ := hown.form (by omega)
       cases hv
       have O1 := hide hown
       have V2' := hide (B2.out.below hb1 B2.out.lt)
       have HB1 := hide (Below.then_ HB0.out hb1)
       have hsz := hide (show w.heap.size + 2 ≤ w1.heap.size by have := hb1.size; simpa using this)
       have V5 := hide (Vk.new w1 28 [.int .i64 room, .slice (some ⟨g, 0, none⟩) n1 c1])
       clear hown hb1
       clear hgg)
      | (
       go_at_call 31
       refine (place_any room (some ⟨g, 0, none⟩) n1 c1 L id _ (by omega) (Rit.of_own (O1.out.alloc _))).mono ?_
       rintro r w2 ⟨rfl, hb2⟩
       rw [HP.out]
       have V2f := hide ((V2'.out.alloc _).below hb2 (V2'.out.alloc _).lt)
       have V5f := hide (V5.out.below hb2 V5.out.lt)
       have HB2 := hide (Below.then_ (Below.al HB1.out _) hb2)
       have hsz2 := hide (show w1.heap.size + 1 ≤ w2.heap.size by have := hb2.size; simpa using this)
       have O2 := hide (own_below (O1.out.alloc (.cells #[.int .i64 room, .slice (some ⟨g, 0, none⟩) n1 c1] 28)) hb2)
       obtain ⟨p0, p1, _, _⟩ := V5f.out.two
       obtain ⟨t0, t1, s0, s1⟩ := V2f.out.two
       clear hb2)
      | (
       go_at_call 36
       have DD := mark_any g (i * 3) (nthI L i) p d w2 (own_it O2.out hi) ((HB2.out.cell (World.block_lt_of_cell? w p HD.out)).trans HD.out)
       rw [HR.out] at DD
       refine DD.mono ?_
       rintro r w3 ⟨rfl, hdd⟩
       obtain ⟨ho, hgr⟩ := own_done O2.out hi ⟨rfl, hdd⟩
       have gl := own_lt O1.out g rfl
       simp at gl
       have hs1 := hsz.out
       have V2g := hide (V2f.out.grown hgr (fun e => by injection e with e; omega))
       have V5g := hide (V5f.out.grown hgr (fun e => by injection e with e; omega))
       obtain ⟨a0, a1, _, _⟩ := V5g.out.two
       obtain ⟨b0, b1, k0, k1⟩ := V2g.out.two
       have HB3 := hide (HB2.out.grown hgr HB2.out.size (fun j hj => by obtain rfl : g = j := (by injection hj); omega))
       have O3 := hide ho
       clear ho hgr hdd gl DD hs1 p0 p1 t0 t1 s0 s1))
    have Z := (V2g.out.set_ 0 (.int .i64 room)).set_ 1 (.slice (some ⟨g, 0, none⟩) n1 c1)
    simp only [List.set_cons_zero, List.set_cons_succ] at Z
    obtain ⟨d0, d1, _⟩ := Z.two
  · refine bodyPost_ret (v := .tuple #[.agg #[.int .i64 room, .slice (some ⟨g, 0, none⟩) n1 c1], .int .i64 0]) (by simp [results, Try.results33, go_sem, d0, d1]) rfl ⟨some ⟨g, 0, none⟩, n1, c1, rfl, ?_, ?_⟩
    · exact own_far (own_far O3.out (by simp) (Nat.le_refl _) _) (by simp) (by simp; omega) _
    · exact (HB3.out.setCell (by simp) _).setCell (by simp) _
  · refine bodyPost_ret (v := .tuple #[.agg #[.int .i64 room, .slice (some ⟨g, 0, none⟩) n1 c1], .int .i64 E]) (by simp [results, Try.results33, go_sem, d0, d1]) rfl ⟨some ⟨g, 0, none⟩, n1, c1, rfl, ?_, ?_⟩
    · exact own_far (own_far O3.out (by simp) (Nat.le_refl _) _) (by simp) (by simp; omega) _
    · exact (HB3.out.setCell (by simp) _).setCell (by simp) _
theorem mark_ch (room : Int) (A : Option Addr) (n c : Nat) (L : List It) (id : Int) (p : Addr) (d : Bool) (w : World) (hn : n ≤ 1000) (h : Rit w A n L) (hd : w.cell? p = some (.bool d)) :
    Calls Try.prog 33 #[.agg #[.int .i64 room, .slice A n c], .int .i64 id, .func (.func 36) #[] #[.pointer (some p)]] w (ChangePost room (changeR (markD d) L id) w) := by
  have hr := idxV_range (fun t => t.id == id) L
  have hl := h.len
  unfold changeR
  by_cases hp : place L id < 0
  · rw [if_pos hp]
    exact mark_none room A n c L id p d w hn h (by have := hr.1; unfold place at hp ⊢; omega)
  · rw [if_neg hp]
    exact mark_some room A n c L id p d (place L id).toNat w hn h hd (by omega) (by have := hr.2; unfold place at hp ⊢; omega)
set_option maxHeartbeats 4000000 in
theorem ren_none (room : Int) (A : Option Addr) (n c : Nat) (L : List It) (id : Int) (p q : Addr) (_other : Bool) (_tow : Int) (w : World) (hn : n ≤ 1000) (h : Rit w A n L) (hp : place L id = -1) :
    Calls Try.prog 33 #[.agg #[.int .i64 room, .slice A n c], .int .i64 id, .func (.func 37) #[] #[.pointer (some p), .pointer (some q)]] w (ChangePost room (L, 6) w) := by
  have H := hide h
  have HL := hide h.len
  obtain ⟨V1, V2⟩ := boxes2 w 28 28 [.int .i64 room, .slice A n c] [.int .i64 0, .slice none 0 0]
  have B1 := hide V1
  have B2 := hide V2
  have HB0 := hide (Below.al (Below.al (Below.refl w.heap.size w) (.cells #[.int .i64 room, .slice A n c] 28)) (.cells #[.int .i64 0, .slice none 0 0] 28))
  have OW := hide (own_any room A n c L _ (by omega) (H.out.below HB0.out))
  unfold CachePost at OW
  have HP := hide hp
  clear h V1 V2 hp
  go_enter Try.func33, Try.ntmps33
  go_wp2_with (first
    | (
       go_at_call 30
       refine OW.out.mono ?_
       rintro r w1 ⟨A1, n1, c1, rfl, hown, hb1⟩
       obtain rfl : n1 = n := by have := hown.1; rw [its_length, HL.out] at this; omega
       have O1 := hide hown
       have V2' := hide (B2.out.below hb1 B2.out.lt)
       have HB1 := hide (Below.then_ HB0.out hb1)
       have hsz := hide (show w.heap.size + 2 ≤ w1.heap.size by have := hb1.size; simpa using this)
       have V5 := hide (Vk.new w1 28 [.int .i64 room, .slice A1 n1 c1])
       clear hown hb1)
    | (
       go_at_call 31
       refine (place_any room A1 n1 c1 L id _ (by omega) (Rit.of_own (O1.out.alloc _))).mono ?_
       rintro r w2 ⟨rfl, hb2⟩
       rw [HP.out]
       have V2f := hide ((V2'.out.alloc _).below hb2 (V2'.out.alloc _).lt)
       have V5f := hide (V5.out.below hb2 V5.out.lt)
       have HB2 := hide (Below.then_ (Below.al HB1.out _) hb2)
       have hsz2 := hide (show w1.heap.size + 1 ≤ w2.heap.size by have := hb2.size; simpa using this)
       have O2 := hide (own_below (O1.out.alloc (.cells #[.int .i64 room, .slice A1 n1 c1] 28)) hb2)
       obtain ⟨p0, p1, _, _⟩ := V5f.out.two
       obtain ⟨t0, t1, s0, s1⟩ := V2f.out.two
       clear hb2))
  have Z := (V2f.out.set_ 0 (.int .i64 room)).set_ 1 (.slice A1 n1 c1)
  simp only [List.set_cons_zero, List.set_cons_succ] at Z
  obtain ⟨d0, d1, _⟩ := Z.two
  refine bodyPost_ret (v := .tuple #[.agg #[.int .i64 room, .slice A1 n1 c1], .int .i64 6]) (by simp [results, Try.results33, go_sem, d0, d1]) rfl ⟨A1, n1, c1, rfl, ?_, ?_⟩
  · exact own_far (own_far O2.out (by simp) (Nat.le_refl _) _) (by simp) (by simp; omega) _
  · exact (HB2.out.setCell (by simp) _).setCell (by simp) _
set_option maxHeartbeats 4000000 in
theorem ren_some (room : Int) (A : Option Addr) (n c : Nat) (L : List It) (id : Int) (p q : Addr) (other : Bool) (tow : Int) (i : Nat) (w : World) (hn : n ≤ 1000) (h : Rit w A n L) (hd : w.cell? p = some (.bool other)) (hd2 : w.cell? q = some (.int .i64 tow)) (hp : place L id = i) (hi : i < n) :
    Calls Try.prog 33 #[.agg #[.int .i64 room, .slice A n c], .int .i64 id, .func (.func 37) #[] #[.pointer (some p), .pointer (some q)]] w (ChangePost room (L.set i (renD other tow (nthI L i)).2, (renD other tow (nthI L i)).1) w) := by
  have hiN : (i : Int) < (n : Int) := by omega
  have hi0 : (0 : Int) ≤ (i : Int) := by omega
  have H := hide h
  have HL := hide h.len
  obtain ⟨V1, V2⟩ := boxes2 w 28 28 [.int .i64 room, .slice A n c] [.int .i64 0, .slice none 0 0]
  have B1 := hide V1
  have B2 := hide V2
  have HB0 := hide (Below.al (Below.al (Below.refl w.heap.size w) (.cells #[.int .i64 room, .slice A n c] 28)) (.cells #[.int .i64 0, .slice none 0 0] 28))
  have OW := hide (own_any room A n c L _ (by omega) (H.out.below HB0.out))
  unfold CachePost at OW
  have HP := hide hp
  have HD := hide hd
  have HD2 := hide hd2
  obtain ⟨R, hR⟩ : ∃ R, renD other tow (nthI L i) = R := ⟨_, rfl⟩
  have HR := hide hR
  rw [hR]
  obtain ⟨E, T⟩ := R
  dsimp only
  have de : E = 0 ∨ (E != 0) = true := by
    by_cases h0 : E = 0
    · exact .inl h0
    · exact .inr (by simp [h0])
  clear h V1 V2 hp hR
  rcases de with rfl | de
  all_goals
    go_enter Try.func33, Try.ntmps33
    go_wp2_with (first
      | (
       go_at_call 30
       refine OW.out.mono ?_
       rintro r w1 ⟨A1, n1, c1, rfl, hown, hb1⟩
       obtain rfl : n1 = n := by have := hown.1; rw [its_length, HL.out] at this; omega
       obtain ⟨g, cap, hv, hgg, _⟩ := hown.form (by omega)
       cases hv
       have O1 := hide hown
       have V2' := hide (B2.out.below hb1 B2.out.lt)
       have HB1 := hide (Below.then_ HB0.out hb1)
       have hsz := hide (show w.heap.size + 2 ≤ w1.heap.size by have := hb1.size; simpa using this)
       have V5 := hide (Vk.new w1 28 [.int .i64 room, .slice (some ⟨g, 0, none⟩) n1 c1])
       clear hown hb1
       clear hgg)
      | (
       go_at_call 31
       refine (place_any room (some ⟨g, 0, none⟩) n1 c1 L id _ (by omega) (Rit.of_own (O1.out.alloc _))).mono ?_
       rintro r w2 ⟨rfl, hb2⟩
       rw [HP.out]
       have V2f := hide ((V2'.out.alloc _).below hb2 (V2'.out.alloc _).lt)
       have V5f := hide (V5.out.below hb2 V5.out.lt)
       have HB2 := hide (Below.then_ (Below.al HB1.out _) hb2)
       have hsz2 := hide (show w1.heap.size + 1 ≤ w2.heap.size by have := hb2.size; simpa using this)
       have O2 := hide (own_below (O1.out.alloc (.cells #[.int .i64 room, .slice (some ⟨g, 0, none⟩) n1 c1] 28)) hb2)
       obtain ⟨p0, p1, _, _⟩ := V5f.out.two
       obtain ⟨t0, t1, s0, s1⟩ := V2f.out.two
       clear hb2)
      | (
       go_at_call 37
       have DD := ren_any g (i * 3) (nthI L i) p q other tow w2 (own_it O2.out hi) ((HB2.out.cell (World.block_lt_of_cell? w p HD.out)).trans HD.out) ((HB2.out.cell (World.block_lt_of_cell? w q HD2.out)).trans HD2.out)
       rw [HR.out] at DD
       refine DD.mono ?_
       rintro r w3 ⟨rfl, hdd⟩
       obtain ⟨ho, hgr⟩ := own_done O2.out hi ⟨rfl, hdd⟩
       have gl := own_lt O1.out g rfl
       simp at gl
       have hs1 := hsz.out
       have V2g := hide (V2f.out.grown hgr (fun e => by injection e with e; omega))
       have V5g := hide (V5f.out.grown hgr (fun e => by injection e with e; omega))
       obtain ⟨a0, a1, _, _⟩ := V5g.out.two
       obtain ⟨b0, b1, k0, k1⟩ := V2g.out.two
       have HB3 := hide (HB2.out.grown hgr HB2.out.size (fun j hj => by obtain rfl : g = j := (by injection hj); omega))
       have O3 := hide ho
       clear ho hgr hdd gl DD hs1 p0 p1 t0 t1 s0 s1))
    have Z := (V2g.out.set_ 0 (.int .i64 room)).set_ 1 (.slice (some ⟨g, 0, none⟩) n1 c1)
    simp only [List.set_cons_zero, List.set_cons_succ] at Z
    obtain ⟨d0, d1, _⟩ := Z.two
  · refine bodyPost_ret (v := .tuple #[.agg #[.int .i64 room, .slice (some ⟨g, 0, none⟩) n1 c1], .int .i64 0]) (by simp [results, Try.results33, go_sem, d0, d1]) rfl ⟨some ⟨g, 0, none⟩, n1, c1, rfl, ?_, ?_⟩
    · exact own_far (own_far O3.out (by simp) (Nat.le_refl _) _) (by simp) (by simp; omega) _
    · exact (HB3.out.setCell (by simp) _).setCell (by simp) _
  · refine bodyPost_ret (v := .tuple #[.agg #[.int .i64 room, .slice (some ⟨g, 0, none⟩) n1 c1], .int .i64 E]) (by simp [results, Try.results33, go_sem, d0, d1]) rfl ⟨some ⟨g, 0, none⟩, n1, c1, rfl, ?_, ?_⟩
    · exact own_far (own_far O3.out (by simp) (Nat.le_refl _) _) (by simp) (by simp; omega) _
    · exact (HB3.out.setCell (by simp) _).setCell (by simp) _
theorem ren_ch (room : Int) (A : Option Addr) (n c : Nat) (L : List It) (id : Int) (p q : Addr) (other : Bool) (tow : Int) (w : World) (hn : n ≤ 1000) (h : Rit w A n L) (hd : w.cell? p = some (.bool other)) (hd2 : w.cell? q = some (.int .i64 tow)) :
    Calls Try.prog 33 #[.agg #[.int .i64 room, .slice A n c], .int .i64 id, .func (.func 37) #[] #[.pointer (some p), .pointer (some q)]] w (ChangePost room (changeR (renD other tow) L id) w) := by
  have hr := idxV_range (fun t => t.id == id) L
  have hl := h.len
  unfold changeR
  by_cases hp : place L id < 0
  · rw [if_pos hp]
    exact ren_none room A n c L id p q other tow w hn h (by have := hr.1; unfold place at hp ⊢; omega)
  · rw [if_neg hp]
    exact ren_some room A n c L id p q other tow (place L id).toNat w hn h hd hd2 (by omega) (by have := hr.2; unfold place at hp ⊢; omega)
end Go.Proofs.Ytiaahlkhpghnnaa

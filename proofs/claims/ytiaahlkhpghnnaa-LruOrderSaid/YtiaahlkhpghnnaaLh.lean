/- The walk of Touch. -/
import Derived.Test.YtiaahlkhpghnnaaLg
namespace Go.Proofs.Ytiaahlkhpghnnaa
open Go.RowKit Go.Instr

/-- What a touch leaves. -/
def touchL (room : Int) (L : List It) (id : Int) : List It :=
  if checkC room L ≠ 0 ∨ inR id = false then L else if place L id < 0 then L ++ [⟨id, 0, false⟩] else L.eraseIdx (place L id).toNat ++ [nthI L (place L id).toNat]
theorem in_any' (x : Int) (w : World) : Calls Try.prog 25 #[.int .i64 x] w fun e w' => e = .returned (.bool (inR x)) ∧ w = w' := in_any x w
theorem own_at {w w' : World} {base base' : Nat} {A : Option Addr} {n c : Nat} {L : List It} (h : w.ownsRow base 47 3 (.slice A n c) n (its L)) (hb : base' ≤ base) (hf : ∀ b, base ≤ b → b < w.heap.size → w'.heap[b]? = w.heap[b]?) : w'.ownsRow base' 47 3 (.slice A n c) n (its L) :=
  own_mono (own_stay h hf) hb
theorem own_cap3 {w : World} {base : Nat} {A : Option Addr} {n c : Nat} {xs : List Value} (h : w.ownsRow base 47 3 (.slice A n c) n xs) : n ≤ c ∧ c ≤ maxLen := by
  rcases h.2 with ⟨hv, h0⟩ | ⟨g, cap, cur, hv, _, _, hnc, hcm, _⟩
  · injection hv with _ _ e3; subst e3; omega
  · injection hv with _ _ e3; subst e3; exact ⟨hnc, hcm⟩
theorem own_off {w : World} {base : Nat} {e : TypeId} {size : Nat} {v : Value} {n : Nat} {xs : List Value} (h : w.ownsRow base e size v n xs) {p : Addr} (hne : ∀ g, v.ownBlock = some g → g ≠ p.block) (u : Value) : (w.setCell p u).ownsRow base e size v n xs := by
  refine ⟨h.1, ?_⟩
  rcases h.2 with h2 | ⟨g, cap, cur, hv, hg, hh, r⟩
  · exact .inl h2
  · exact .inr ⟨g, cap, cur, hv, hg, (Below.heap_setCell w p u g (hne g (by rw [hv]; rfl))).trans hh, r⟩
set_option maxHeartbeats 4000000 in
theorem touch_no (room : Int) (A : Option Addr) (n c : Nat) (L : List It) (id : Int) (w : World) (hn : n ≤ 1000) (h : Rit w A n L) (hno : checkC room L ≠ 0 ∨ inR id = false) :
    Calls Try.prog 20 #[.agg #[.int .i64 room, .slice A n c], .int .i64 id] w (CachePost room L w) := by
  have H := hide h
  obtain ⟨V1, V2⟩ := boxes2 w 28 28 [.int .i64 room, .slice A n c] [.int .i64 0, .slice none 0 0]
  have B1 := hide V1
  have B2 := hide V2
  have HB0 := hide (Below.al (Below.al (Below.refl w.heap.size w) (.cells #[.int .i64 room, .slice A n c] 28)) (.cells #[.int .i64 0, .slice none 0 0] 28))
  have OW := hide (own_any room A n c L _ hn (H.out.below HB0.out))
  unfold CachePost at OW
  have CK := hide (fun w h => check_any room A n c L w hn h)
  obtain ⟨E, hE⟩ : ∃ E, checkC room L = E := ⟨_, rfl⟩
  obtain ⟨q, hq⟩ : ∃ q, inR id = q := ⟨_, rfl⟩
  rw [hE] at CK
  rw [hE, hq] at hno
  have IN := hide (fun w => in_any' id w)
  rw [hq] at IN
  have de : (E != 0) = true ∨ ((E != 0) = false ∧ q = false) := by
    by_cases h0 : E = 0
    · exact .inr ⟨by simp [h0], by simpa [h0] using hno⟩
    · exact .inl (by simp [h0])
  clear h V1 V2 hE hq hno
  rcases de with de | ⟨de, rfl⟩
  all_goals
    go_enter Try.func20, Try.ntmps20
    go_wp2_with (first
      | (go_at_call 30
         refine OW.out.mono ?_
         rintro r w1 ⟨A1, n1, c1, rfl, hown, hb1⟩
         have O1 := hide hown
         have V1' := hide (B1.out.below hb1 B1.out.lt)
         have V2' := hide (B2.out.below hb1 B2.out.lt)
         obtain ⟨a0, a1, _, _⟩ := (V1'.out.alloc (.cells #[.int .i64 room, .slice A1 n1 c1] 28)).two
         have HB1 := hide (Below.then_ HB0.out hb1)
         have hsz := hide (show w.heap.size + 2 ≤ w1.heap.size by have := hb1.size; simpa using this)
         have V5 := hide (Vk.new w1 28 [.int .i64 room, .slice A1 n1 c1])
         clear hown hb1)
      | (go_at_call 11
         refine (CK.out _ (H.out.below (Below.al HB1.out _))).mono ?_
         rintro r w2 ⟨rfl, hb2⟩
         have V1'' := hide ((V1'.out.alloc _).below hb2 (V1'.out.alloc _).lt)
         have V2'' := hide ((V2'.out.alloc _).below hb2 (V2'.out.alloc _).lt)
         have V5' := hide (V5.out.below hb2 V5.out.lt)
         obtain ⟨b0, b1, g0, g1⟩ := V2''.out.two
         obtain ⟨e0, e1, _, _⟩ := V5'.out.two
         have HB2 := hide (Below.then_ (Below.al HB1.out _) hb2)
         have O2 := hide (own_below (O1.out.alloc (.cells #[.int .i64 room, .slice A1 n1 c1] 28)) hb2)
         clear hb2)
      | (go_at_call 25
         refine (IN.out _).mono ?_
         rintro r w9 ⟨rfl, rfl⟩))
    have Z := (V2''.out.set_ 0 (.int .i64 room)).set_ 1 (.slice A1 n1 c1)
    simp only [List.set_cons_zero, List.set_cons_succ] at Z
    obtain ⟨d0, d1, _⟩ := Z.two
    refine bodyPost_ret (v := .agg #[.int .i64 room, .slice A1 n1 c1]) (by simp [results, Try.results20, go_sem, d0, d1]) rfl ⟨A1, n1, c1, rfl, ?_, ?_⟩
    · exact own_far (own_far O2.out (by simp) (Nat.le_refl _) _) (by simp) (by simp; omega) _
    · exact (HB2.out.setCell (by simp) _).setCell (by simp) _
-- the two other ways
set_option maxHeartbeats 4000000 in
theorem touch_new (room : Int) (A : Option Addr) (n c : Nat) (L : List It) (id : Int) (w : World) (hn : n ≤ 900) (h : Rit w A n L) (hE : checkC room L = 0) (hq : inR id = true) (hp : place L id = -1) :
    Calls Try.prog 20 #[.agg #[.int .i64 room, .slice A n c], .int .i64 id] w (CachePost room (L ++ [⟨id, 0, false⟩]) w) := by
  have H := hide h
  have HL := hide h.len
  obtain ⟨V1, V2⟩ := boxes2 w 28 28 [.int .i64 room, .slice A n c] [.int .i64 0, .slice none 0 0]
  have B1 := hide V1
  have B2 := hide V2
  have HB0 := hide (Below.al (Below.al (Below.refl w.heap.size w) (.cells #[.int .i64 room, .slice A n c] 28)) (.cells #[.int .i64 0, .slice none 0 0] 28))
  have OW := hide (own_any room A n c L _ (by omega) (H.out.below HB0.out))
  unfold CachePost at OW
  have CK := hide (fun w h => check_any room A n c L w (by omega) h)
  rw [hE] at CK
  have IN := hide (fun w => in_any' id w)
  rw [hq] at IN
  have HP := hide hp
  clear h V1 V2 hE hq hp
  go_enter Try.func20, Try.ntmps20
  go_wp2_with (first
      | (go_at_call 30
         refine OW.out.mono ?_
         rintro r w1 ⟨A1, n1, c1, rfl, hown, hb1⟩
         obtain rfl : n1 = n := by have := hown.1; rw [its_length, HL.out] at this; omega
         have O1 := hide hown
         have V1' := hide (B1.out.below hb1 B1.out.lt)
         have V2' := hide (B2.out.below hb1 B2.out.lt)
         obtain ⟨a0, a1, _, _⟩ := (V1'.out.alloc (.cells #[.int .i64 room, .slice A1 n1 c1] 28)).two
         have HB1 := hide (Below.then_ HB0.out hb1)
         have hsz := hide (show w.heap.size + 2 ≤ w1.heap.size by have := hb1.size; simpa using this)
         have V5 := hide (Vk.new w1 28 [.int .i64 room, .slice A1 n1 c1])
         clear hown hb1)
      | (go_at_call 11
         refine (CK.out _ (H.out.below (Below.al HB1.out _))).mono ?_
         rintro r w2 ⟨rfl, hb2⟩
         have V2'' := hide ((V2'.out.alloc _).below hb2 (V2'.out.alloc _).lt)
         have V5' := hide (V5.out.below hb2 V5.out.lt)
         obtain ⟨e0, e1, _, _⟩ := (V5'.out.alloc (.cells #[.int .i64 id, .int .i64 0, .bool false] 47)).two
         have HB2 := hide (Below.then_ (Below.al HB1.out _) hb2)
         have hsz2 := hide (show w1.heap.size + 1 ≤ w2.heap.size by have := hb2.size; simpa using this)
         have O2 := hide (own_below (O1.out.alloc (.cells #[.int .i64 room, .slice A1 n1 c1] 28)) hb2)
         have V6 := hide (Vk.new w2 47 [.int .i64 id, .int .i64 0, .bool false])
         clear hb2)
      | (go_at_call 25
         refine (IN.out _).mono ?_
         rintro r w9 ⟨rfl, rfl⟩)
      | (go_at_call 31
         refine (place_any room A1 n1 c1 L id _ (by omega) (Rit.of_own (O2.out.alloc _))).mono ?_
         rintro r w3 ⟨rfl, hb3⟩
         rw [HP.out]
         have V2f := hide ((V2''.out.alloc _).below hb3 (V2''.out.alloc _).lt)
         have V5f := hide ((V5'.out.alloc _).below hb3 (V5'.out.alloc _).lt)
         have V6f := hide (V6.out.below hb3 V6.out.lt)
         have HB3 := hide (Below.then_ (Below.al HB2.out _) hb3)
         have hsz3 := hide (show w2.heap.size + 1 ≤ w3.heap.size by have := hb3.size; simpa using this)
         have O3 := hide (own_below (O2.out.alloc (.cells #[.int .i64 id, .int .i64 0, .bool false] 47)) hb3)
         obtain ⟨p0, p1, q0, q1⟩ := V5f.out.two
         obtain ⟨t0, t1, t2, s0, s1, s2⟩ := V6f.out.three
         clear hb3)
      | ((with_reducible show wpList _ _ _ (⟨some 42, _, _, _, _, _⟩ :: _) _ _)
         have N1 := O3.out.alloc (.cells #[.int .i64 id, .int .i64 0, .bool false] 47)
         have N2 : Rd (w3.alloc (.cells #[.int .i64 id, .int .i64 0, .bool false] 47)) (some ⟨w3.heap.size, 0, none⟩) 1 3 (its [⟨id, 0, false⟩]) := (Vk.new w3 47 [.int .i64 id, .int .i64 0, .bool false]).rd 3 1 rfl
         refine wpList_app rfl (.tmp 39) (.tmp 41) 26 rfl _ 47 (itV it0) 3 24 Try.underlying26 info47 rfl (by omega) _ _ n1 (its L) rfl N1 _ 1 _ (its [⟨id, 0, false⟩]) rfl N2 (its_one _) (by unfold maxLen; omega) (by omega) (by have := hsz.out; have := hsz2.out; have := hsz3.out; simp; omega) ?_
         intro A6 c6 w6 hown hgr hz
         have ne : ∀ b, b < w.heap.size + 2 ∨ b = w1.heap.size ∨ b = w2.heap.size → some b ≠ (Value.slice A1 n1 c1).ownBlock := fun b hb e => by
           have h1 := own_lt O1.out b e.symm
           have := hsz2.out
           simp at h1
           omega
         have G2 := hide ((V2f.out.alloc _).grown hgr (ne _ (by omega)))
         have G5 := hide ((V5f.out.alloc _).grown hgr (ne _ (by omega)))
         obtain ⟨x0, x1, y0, y1⟩ := G5.out.two
         obtain ⟨z0, z1, u0, u1⟩ := G2.out.two
         have ne1 : ¬ w1.heap.size = w.heap.size + 1 := by have := hsz.out; omega
         have ne2 : ¬ w.heap.size + 1 = w1.heap.size := by have := hsz.out; omega
         have HB6 := hide ((Below.al HB3.out _).grown hgr (Below.al HB3.out _).size (fun j hj => by have h1 := own_lt O1.out j hj; simp at h1; omega))
         have HG6 := hide (show ∀ b, (Value.slice A6 (n1 + 1) c6).ownBlock = some b → b ≠ w1.heap.size ∧ w.heap.size + 2 ≤ b from fun b hb => by
           rcases hz with e | e
           · have h1 := own_lt O1.out b (e.symm.trans hb)
             simp at h1
             omega
           · rw [e] at hb
             injection hb with hb
             have := hsz.out; have := hsz2.out; have := hsz3.out
             simp at hb
             omega)
         rw [← its_app] at hown
         have O6 := hide hown
         clear hown hgr hz N1 N2 ne))
  have Z := ((G2.out.far (p := ⟨w1.heap.size, 1, none⟩) (by have := hsz.out; simp; omega) (.slice A6 (n1 + 1) c6)).set_ 0 (.int .i64 room)).set_ 1 (.slice A6 (n1 + 1) c6)
  simp only [List.set_cons_zero, List.set_cons_succ] at Z
  obtain ⟨d0, d1, _⟩ := Z.two
  refine bodyPost_ret (v := .agg #[.int .i64 room, .slice A6 (n1 + 1) c6]) (by simp [results, Try.results20, go_sem, d0, d1]) rfl ⟨A6, n1 + 1, c6, rfl, ?_, ?_⟩
  · exact own_mono (own_off (own_off (own_off O6.out (fun b hb => (HG6.out b hb).1) _) (fun b hb => by have := (HG6.out b hb).2; simp; omega) _) (fun b hb => by have := (HG6.out b hb).2; simp; omega) _) (by simp; omega)
  · exact ((HB6.out.setCell (by have := hsz.out; simp; omega) _).setCell (by simp) _).setCell (by simp) _
set_option maxHeartbeats 4000000 in
theorem touch_old (room : Int) (A : Option Addr) (n c : Nat) (L : List It) (id : Int) (i : Nat) (w : World) (hn : n ≤ 900) (h : Rit w A n L) (hE : checkC room L = 0) (hq : inR id = true) (hp : place L id = i) (hi : i < n) :
    Calls Try.prog 20 #[.agg #[.int .i64 room, .slice A n c], .int .i64 id] w (CachePost room (L.eraseIdx i ++ [nthI L i]) w) := by
  obtain ⟨m, rfl⟩ : ∃ m, n = m + 1 := ⟨n - 1, by omega⟩
  have him : i ≤ m := by omega
  have hiN : (i : Int) < ((m + 1 : Nat) : Int) := by omega
  have hi0 : (0 : Int) ≤ (i : Int) := by omega
  obtain ⟨T, hT⟩ : ∃ T, nthI L i = T := ⟨_, rfl⟩
  have HT := hide hT
  rw [hT]
  have H := hide h
  have HL := hide h.len
  obtain ⟨V1, V2⟩ := boxes2 w 28 28 [.int .i64 room, .slice A (m + 1) c] [.int .i64 0, .slice none 0 0]
  have B1 := hide V1
  have B2 := hide V2
  have HB0 := hide (Below.al (Below.al (Below.refl w.heap.size w) (.cells #[.int .i64 room, .slice A (m + 1) c] 28)) (.cells #[.int .i64 0, .slice none 0 0] 28))
  have OW := hide (own_any room A (m + 1) c L _ (by omega) (H.out.below HB0.out))
  unfold CachePost at OW
  have CK := hide (fun w h => check_any room A (m + 1) c L w (by omega) h)
  rw [hE] at CK
  have IN := hide (fun w => in_any' id w)
  rw [hq] at IN
  have HP := hide hp
  clear h V1 V2 hE hq hp hT
  go_enter Try.func20, Try.ntmps20
  go_wp2_with (first
      | (go_at_call 30
         refine OW.out.mono ?_
         rintro r w1 ⟨A1, n1, c1, rfl, hown, hb1⟩
         obtain rfl : n1 = m + 1 := by have := hown.1; rw [its_length, HL.out] at this; omega
         obtain ⟨g, cap, hv, hg0, hg1⟩ := hown.form (by omega)
         cases hv
         have GL := hide (And.intro hg0 hg1)
         have O1 := hide hown
         have V1' := hide (B1.out.below hb1 B1.out.lt)
         have V2' := hide (B2.out.below hb1 B2.out.lt)
         obtain ⟨a0, a1, _, _⟩ := (V1'.out.alloc (.cells #[.int .i64 room, .slice (some ⟨g, 0, none⟩) (m + 1) c1] 28)).two
         have HB1 := hide (Below.then_ HB0.out hb1)
         have hsz := hide (show w.heap.size + 2 ≤ w1.heap.size by have := hb1.size; simpa using this)
         have V5 := hide (Vk.new w1 28 [.int .i64 room, .slice (some ⟨g, 0, none⟩) (m + 1) c1])
         clear hown hb1)
      | (go_at_call 11
         refine (CK.out _ (H.out.below (Below.al HB1.out _))).mono ?_
         rintro r w2 ⟨rfl, hb2⟩
         have V2'' := hide ((V2'.out.alloc _).below hb2 (V2'.out.alloc _).lt)
         have V5' := hide (V5.out.below hb2 V5.out.lt)
         obtain ⟨e0, e1, _, _⟩ := (V5'.out.alloc (.cells #[.int .i64 id, .int .i64 0, .bool false] 47)).two
         have HB2 := hide (Below.then_ (Below.al HB1.out _) hb2)
         have hsz2 := hide (show w1.heap.size + 1 ≤ w2.heap.size by have := hb2.size; simpa using this)
         have O2 := hide (own_below (O1.out.alloc (.cells #[.int .i64 room, .slice (some ⟨g, 0, none⟩) (m + 1) c1] 28)) hb2)
         have V6 := hide (Vk.new w2 47 [.int .i64 id, .int .i64 0, .bool false])
         clear hb2)
      | (go_at_call 25
         refine (IN.out _).mono ?_
         rintro r w9 ⟨rfl, rfl⟩)
      | (go_at_call 31
         refine (place_any room (some ⟨g, 0, none⟩) (m + 1) c1 L id _ (by omega) (Rit.of_own (O2.out.alloc _))).mono ?_
         rintro r w3 ⟨rfl, hb3⟩
         rw [HP.out]
         have V2f := hide ((V2''.out.alloc _).below hb3 (V2''.out.alloc _).lt)
         have V5f := hide ((V5'.out.alloc _).below hb3 (V5'.out.alloc _).lt)
         have V6f := hide (V6.out.below hb3 V6.out.lt)
         have HB3 := hide (Below.then_ (Below.al HB2.out _) hb3)
         have hsz3 := hide (show w2.heap.size + 1 ≤ w3.heap.size by have := hb3.size; simpa using this)
         have O3 := hide (own_below (O2.out.alloc (.cells #[.int .i64 id, .int .i64 0, .bool false] 47)) hb3)
         obtain ⟨p0, p1, q0, q1⟩ := V5f.out.two
         obtain ⟨t0, t1, t2, s0, s1, s2⟩ := V6f.out.three
         clear hb3 hg0 hg1
         obtain ⟨_, i0, i1, i2⟩ := (Rit.of_own O3.out).cells (k := i) (by omega)
         rw [HT.out, Nat.zero_add] at i0 i1 i2
         have gl := GL.out
         have hs1 := hsz.out
         have hs2 := hsz2.out
         have hs3 := hsz3.out
         simp at gl
         have ne1 : ¬ g = w2.heap.size := by omega
         have ne2 : ¬ w2.heap.size = g := by omega
         have ne3 : ¬ w1.heap.size = w2.heap.size := by omega
         have ne4 : ¬ w2.heap.size = w1.heap.size := by omega
         have ne5 : ¬ w1.heap.size = w.heap.size + 1 := by omega
         have ne6 : ¬ w.heap.size + 1 = w1.heap.size := by omega
         have GL2 := hide gl
         clear gl hs1 hs2 hs3)
      | (go_at_call 32
         have W1 := own_off (p := ⟨w2.heap.size, 0, none⟩) O3.out (fun b hb => by injection hb with hb; subst hb; have := GL2.out; have := hsz2.out; simp; omega) (.int .i64 T.id)
         have W2 := own_off (p := ⟨w2.heap.size, 1, none⟩) W1 (fun b hb => by injection hb with hb; subst hb; have := GL2.out; have := hsz2.out; simp; omega) (.int .i64 T.pins)
         have W3 := own_off (p := ⟨w2.heap.size, 2, none⟩) W2 (fun b hb => by injection hb with hb; subst hb; have := GL2.out; have := hsz2.out; simp; omega) (.bool T.dirty)
         refine (delete_any _ g m c1 i L _ (by omega) him W3).mono ?_
         rintro r w4 ⟨rfl, hown4, hgr4⟩
         have hgl := GL2.out
         have hs1 := hsz.out
         have hs2 := hsz2.out
         have hs3 := hsz3.out
         have Q2 := hide ((((V2f.out.far (p := ⟨w2.heap.size, 0, none⟩) (by simp; omega) (.int .i64 T.id)).far (p := ⟨w2.heap.size, 1, none⟩) (by simp; omega) (.int .i64 T.pins)).far (p := ⟨w2.heap.size, 2, none⟩) (by simp; omega) (.bool T.dirty)).grown hgr4 (fun e => by injection e with e; omega))
         have Q5 := hide ((((V5f.out.far (p := ⟨w2.heap.size, 0, none⟩) (by simp; omega) (.int .i64 T.id)).far (p := ⟨w2.heap.size, 1, none⟩) (by simp; omega) (.int .i64 T.pins)).far (p := ⟨w2.heap.size, 2, none⟩) (by simp; omega) (.bool T.dirty)).grown hgr4 (fun e => by injection e with e; omega))
         have Q6 := hide ((((V6f.out.set_ 0 (.int .i64 T.id)).set_ 1 (.int .i64 T.pins)).set_ 2 (.bool T.dirty)).grown hgr4 (fun e => by injection e with e; omega))
         have HB4 := hide ((((HB3.out.setCell (p := ⟨w2.heap.size, 0, none⟩) (by simp; omega) (.int .i64 T.id)).setCell (p := ⟨w2.heap.size, 1, none⟩) (by simp; omega) (.int .i64 T.pins)).setCell (p := ⟨w2.heap.size, 2, none⟩) (by simp; omega) (.bool T.dirty)).grown hgr4 (by have := HB3.out.size; simpa [World.setCell] using this) (fun j hj => by injection hj with hj; omega))
         have hs4 := hgr4.size
         have hsz4 := hide (show w3.heap.size ≤ w4.heap.size by simpa [World.setCell] using hs4)
         have O4 := hide hown4
         obtain ⟨h50, h51, k50, k51⟩ := Q5.out.two
         obtain ⟨h60, h61, h62, _⟩ := Q6.out.three
         clear W1 W2 W3 hown4 hgr4 hgl hs1 hs2 hs3 hs4 p0 p1 q0 q1 t0 t1 t2 s0 s1 s2 i0 i1 i2)
      | ((with_reducible show wpList _ _ _ (⟨some 42, _, _, _, _, _⟩ :: _) _ _)
         go_loud (
         have hgl := GL2.out
         have hs1 := hsz.out
         have hs2 := hsz2.out
         have hs3 := hsz3.out
         have hs4 := hsz4.out
         have M1 := own_off (p := ⟨w1.heap.size, 1, none⟩) O4.out (fun b hb => by injection hb with hb; subst hb; simp; omega) (.slice (some ⟨g, 0, none⟩) m c1)
         have N1 := M1.alloc (.cells #[.int .i64 T.id, .int .i64 T.pins, .bool T.dirty] 47)
         have N2 : Rd ((w4.setCell ⟨w1.heap.size, 1, none⟩ (.slice (some ⟨g, 0, none⟩) m c1)).alloc (.cells #[.int .i64 T.id, .int .i64 T.pins, .bool T.dirty] 47)) (some ⟨w4.heap.size, 0, none⟩) 1 3 (its [T]) := by
           have := (Vk.new (w4.setCell ⟨w1.heap.size, 1, none⟩ (.slice (some ⟨g, 0, none⟩) m c1)) 47 [.int .i64 T.id, .int .i64 T.pins, .bool T.dirty]).rd 3 1 rfl
           rw [show (w4.setCell ⟨w1.heap.size, 1, none⟩ (.slice (some ⟨g, 0, none⟩) m c1)).heap.size = w4.heap.size by simp [World.setCell]] at this
           exact this
         refine wpList_app rfl (.tmp 39) (.tmp 41) 26 rfl _ 47 (itV it0) 3 24 Try.underlying26 info47 rfl (by omega) (some ⟨g, 0, none⟩) c1 m (its (L.eraseIdx i)) rfl N1 _ 1 _ (its [T]) rfl N2 (its_one _) (by unfold maxLen; omega) (by omega) (by simp [World.setCell]; omega) ?_
         intro A6 c6 w6 hown hgr hz
         have ne : ∀ b, b ≠ g → some b ≠ (Value.slice (some ⟨g, 0, none⟩) m c1).ownBlock := fun b hb e => by injection e with e; exact hb e
         have G2 := hide (((Q2.out.far (p := ⟨w1.heap.size, 1, none⟩) (by simp; omega) (.slice (some ⟨g, 0, none⟩) m c1)).alloc (.cells #[.int .i64 T.id, .int .i64 T.pins, .bool T.dirty] 47)).grown hgr (ne _ (by omega)))
         have G5 := hide (((Q5.out.set_ 1 (.slice (some ⟨g, 0, none⟩) m c1)).alloc (.cells #[.int .i64 T.id, .int .i64 T.pins, .bool T.dirty] 47)).grown hgr (ne _ (by omega)))
         obtain ⟨x0, x1, y0, y1⟩ := G5.out.two
         obtain ⟨z0, z1, u0, u1⟩ := G2.out.two
         have HB6 := hide ((Below.al (HB4.out.setCell (p := ⟨w1.heap.size, 1, none⟩) (by simp; omega) (.slice (some ⟨g, 0, none⟩) m c1)) (.cells #[.int .i64 T.id, .int .i64 T.pins, .bool T.dirty] 47)).grown hgr (by simp [World.setCell]; omega) (fun j hj => by obtain rfl : g = j := (by injection hj); omega))
         have HG6 := hide (show ∀ b, (Value.slice A6 (m + 1) c6).ownBlock = some b → b ≠ w1.heap.size ∧ w.heap.size + 2 ≤ b from fun b hb => by
           rcases hz with e | e
           · obtain rfl : g = b := by rw [e] at hb; injection hb
             omega
           · rw [e] at hb
             injection hb with hb
             simp [World.setCell] at hb
             omega)
         rw [← its_app] at hown
         have O6 := hide hown
         clear hown hgr hz N1 N2 M1 ne hgl hs1 hs2 hs3 hs4)))
  have Z := ((G2.out.far (p := ⟨w1.heap.size, 1, none⟩) (by have := hsz.out; simp; omega) (.slice A6 (m + 1) c6)).set_ 0 (.int .i64 room)).set_ 1 (.slice A6 (m + 1) c6)
  simp only [List.set_cons_zero, List.set_cons_succ] at Z
  obtain ⟨d0, d1, _⟩ := Z.two
  refine bodyPost_ret (v := .agg #[.int .i64 room, .slice A6 (m + 1) c6]) (by simp [results, Try.results20, go_sem, d0, d1]) rfl ⟨A6, m + 1, c6, rfl, ?_, ?_⟩
  · exact own_mono (own_off (own_off (own_off O6.out (fun b hb => (HG6.out b hb).1) _) (fun b hb => by have := (HG6.out b hb).2; simp; omega) _) (fun b hb => by have := (HG6.out b hb).2; simp; omega) _) (by simp; omega)
  · exact ((HB6.out.setCell (by have := hsz.out; simp; omega) _).setCell (by simp) _).setCell (by simp) _
theorem touch_any (room : Int) (A : Option Addr) (n c : Nat) (L : List It) (id : Int) (w : World) (hn : n ≤ 900) (h : Rit w A n L) :
    Calls Try.prog 20 #[.agg #[.int .i64 room, .slice A n c], .int .i64 id] w (CachePost room (touchL room L id) w) := by
  unfold touchL
  by_cases hno : checkC room L ≠ 0 ∨ inR id = false
  · rw [if_pos hno]
    exact touch_no room A n c L id w (by omega) h hno
  · rw [if_neg hno]
    have hE : checkC room L = 0 := Classical.byContradiction fun x => hno (.inl x)
    have hq : inR id = true := by
      cases hh : inR id
      · exact absurd (.inr hh) hno
      · rfl
    have hr := idxV_range (fun t => t.id == id) L
    by_cases hp : place L id < 0
    · rw [if_pos hp]
      exact touch_new room A n c L id w hn h hE hq (by have := hr.1; unfold place at hp ⊢; omega)
    · rw [if_neg hp]
      have hl := h.len
      exact touch_old room A n c L id (place L id).toNat w hn h hE hq (by omega) (by have := hr.2; unfold place at hp ⊢; omega)
end Go.Proofs.Ytiaahlkhpghnnaa

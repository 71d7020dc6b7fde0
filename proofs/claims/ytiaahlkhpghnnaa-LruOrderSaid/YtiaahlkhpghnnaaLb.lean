/- The walks of Clone, own, Over, Victim, Equal, Same. -/
import Derived.Test.YtiaahlkhpghnnaaLa
namespace Go.Proofs.Ytiaahlkhpghnnaa
open Go.RowKit

theorem info47 : (Try.prog.info? 47).map (fun i => (i.zero, i.size, i.bytes)) = some (some (itV it0), 3, 24) := by kernel_rfl
theorem nil_own47 (w : World) : (w.alloc (.cells #[] 47)).ownsRow w.heap.size 47 3 (.slice (some ⟨w.heap.size, 0, none⟩) 0 0) 0 (its []) :=
  (Vk.new w 47 (its [])).own (Nat.le_refl _) rfl (Nat.zero_le _)
theorem Vk.two {w : World} {g : Nat} {e : TypeId} {x y : Value} (h : Vk w g e [x, y]) : w.cell? ⟨g, 0, none⟩ = some x ∧ w.cell? ⟨g, 1, none⟩ = some y ∧ w.frozen? ⟨g, 0, none⟩ = false ∧ w.frozen? ⟨g, 1, none⟩ = false :=
  ⟨h.cell 0, h.cell 1, h.frozen 0, h.frozen 1⟩
theorem Vk.three {w : World} {g : Nat} {e : TypeId} {x y z : Value} (h : Vk w g e [x, y, z]) : w.cell? ⟨g, 0, none⟩ = some x ∧ w.cell? ⟨g, 1, none⟩ = some y ∧ w.cell? ⟨g, 2, none⟩ = some z ∧ w.frozen? ⟨g, 0, none⟩ = false ∧ w.frozen? ⟨g, 1, none⟩ = false ∧ w.frozen? ⟨g, 2, none⟩ = false :=
  ⟨h.cell 0, h.cell 1, h.cell 2, h.frozen 0, h.frozen 1, h.frozen 2⟩
theorem own_stay {w w' : World} {base : Nat} {e : TypeId} {size : Nat} {v : Value} {n : Nat} {xs : List Value} (h : w.ownsRow base e size v n xs) (hf : ∀ b, base ≤ b → b < w.heap.size → w'.heap[b]? = w.heap[b]?) : w'.ownsRow base e size v n xs := by
  refine ⟨h.1, ?_⟩
  rcases h.2 with h2 | ⟨g, cap, cur, hv, hg, hh, r⟩
  · exact .inl h2
  · exact .inr ⟨g, cap, cur, hv, hg, (hf g hg (Array.getElem?_eq_some_iff.1 hh).1).trans hh, r⟩
/-- A row of the call's own stays where a cell below it is written. -/
theorem own_far {w : World} {base base' : Nat} {e : TypeId} {size : Nat} {v : Value} {n : Nat} {xs : List Value} (h : w.ownsRow base e size v n xs) {p : Addr} (hp : p.block < base) (hb : base' ≤ base) (u : Value) : (w.setCell p u).ownsRow base' e size v n xs :=
  own_mono (own_stay h fun b hb _ => Below.heap_setCell w p u b (by omega)) hb
theorem is_nil (w : World) (c : Nat) : (binOp .eql 26 (.slice none 0 c) (.slice none 0 0)).run Try.prog w = .ok (.bool true) w := by kernel_rfl
theorem not_nil (w : World) (a : Addr) (n c : Nat) : (binOp .eql 26 (.slice (some a) n c) (.slice none 0 0)).run Try.prog w = .ok (.bool false) w := by kernel_rfl
/-- A cache whose items are the call's own. -/
def CachePost (room : Int) (L : List It) (w : World) (e : Ending) (w' : World) : Prop :=
  ∃ A n c, e = .returned (.agg #[.int .i64 room, .slice A n c]) ∧ w'.ownsRow w.heap.size 47 3 (.slice A n c) n (its L) ∧ Below w.heap.size w w'
set_option maxHeartbeats 1000000 in
theorem clone_any (A : Option Addr) (n c : Nat) (L : List It) (w : World) (hn : n ≤ 1000) (h : Rit w A n L) :
    Calls Try.prog 38 #[.slice A n c] w fun e w' => ∃ A' c', e = .returned (.slice A' n c') ∧ w'.ownsRow w.heap.size 47 3 (.slice A' n c') n (its L) ∧ Below w.heap.size w w' := by
  have H := hide h
  have HL := hide h.len
  clear h
  cases A with
  | none =>
    have h0 : n = 0 := by
      rcases Nat.eq_zero_or_pos n with h0 | h0
      · exact h0
      · obtain ⟨b, o, e, _⟩ := H.out.at_ (k := 0) h0
        cases e
    subst h0
    have hL : L = [] := List.eq_nil_of_length_eq_zero HL.out
    subst hL
    have hnil := fun w => is_nil w c
    go_enter Try.func38, Try.ntmps38
    go_wp2_with fail
    go_ret
    exact ⟨none, 0, rfl, World.ownsRow_nil _ _ _ _, Below.refl _ _⟩
  | some a =>
    have hnil := fun w => not_nil w a n c
    go_enter Try.func38, Try.ntmps38
    go_wp2_with (
      (with_reducible show wpList _ _ _ (⟨some 7, _, _, _, _, _⟩ :: _) _ _)
      have N1 := nil_own47 w
      have N2 : Rd (w.alloc (.cells #[] 47)) (some a) n 3 (its L) := Rd.alloc H.out _
      refine wpList_app rfl (.tmp 5) (.tmp 6) 26 rfl w.heap.size 47 (itV it0) 3 24 Try.underlying26 info47 rfl (by omega) _ _ 0 (its []) rfl N1 _ n _ (its L) rfl N2 (its_one _) (by unfold maxLen; omega) (by omega) (by simp) ?_
      intro A6 c6 w6 hown hgr hz
      clear hz
      have HB6 := hide ((Below.al (Below.refl w.heap.size w) (.cells #[] 47)).grown hgr (by simp) (fun j hj => (own_lt N1 j hj).1))
      rw [← its_app, List.nil_append] at hown
      have O6 := hide hown
      clear hown hgr N1 N2)
    go_ret
    simp only [Nat.zero_add] at O6 ⊢
    exact ⟨A6, c6, rfl, O6.out, HB6.out⟩
set_option maxHeartbeats 1000000 in
theorem own_any (room : Int) (A : Option Addr) (n c : Nat) (L : List It) (w : World) (hn : n ≤ 1000) (h : Rit w A n L) : Calls Try.prog 30 #[.agg #[.int .i64 room, .slice A n c]] w (CachePost room L w) := by
  have H := hide h
  clear h
  have V1 := hide ((Vk.new w 28 [.int .i64 room, .slice A n c]).alloc (.cells #[.int .i64 0, .slice none 0 0] 28))
  have V2 := hide (show Vk ((w.alloc (.cells #[.int .i64 room, .slice A n c] 28)).alloc (.cells #[.int .i64 0, .slice none 0 0] 28)) (w.heap.size + 1) 28 [.int .i64 0, .slice none 0 0] by
    have := Vk.new (w.alloc (.cells #[.int .i64 room, .slice A n c] 28)) 28 [.int .i64 0, .slice none 0 0]
    simpa using this)
  go_enter Try.func30, Try.ntmps30
  go_wp2_with (
    go_at_call 38
    refine (clone_any _ _ _ L _ hn (H.out.below (Below.al (Below.al (Below.refl _ _) _) _))).mono ?_
    rintro r w1 ⟨A1, c1, rfl, hown, hb1⟩
    have HB := hide (Below.then_ (Below.al (Below.al (Below.refl _ _) _) _) hb1)
    have O1 := hide hown
    obtain ⟨c10, c11, f10, f11⟩ := (V1.out.below hb1 (by simp; omega)).two
    have V2' := V2.out.below hb1 (by simp)
    obtain ⟨c20, c21, f20, f21⟩ := V2'.two
    clear hown hb1)
  have V3 := ((V2'.far (p := ⟨w.heap.size, 1, none⟩) (by simp) (.slice A1 n c1)).set_ 0 (.int .i64 room)).set_ 1 (.slice A1 n c1)
  simp only [List.set_cons_zero, List.set_cons_succ] at V3
  obtain ⟨d0, d1, _, _⟩ := V3.two
  refine bodyPost_ret (v := .agg #[.int .i64 room, .slice A1 n c1]) (by simp [results, Try.results30, go_sem, d0, d1]) rfl ⟨A1, n, c1, rfl, ?_, ?_⟩
  · exact own_far (own_far (own_far O1.out (by simp; omega) (Nat.le_refl _) _) (by simp) (Nat.le_refl _) _) (by simp) (by simp; omega) _
  · exact ((HB.out.setCell (by simp) _).setCell (by simp) _).setCell (by simp) _
end Go.Proofs.Ytiaahlkhpghnnaa

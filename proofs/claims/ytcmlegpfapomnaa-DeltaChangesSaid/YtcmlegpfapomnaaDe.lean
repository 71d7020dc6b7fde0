/- The walk of Apply's closure. -/
import Derived.Test.YtcmlegpfapomnaaDd
namespace Go.Proofs.Ytcmlegpfapomnaa
open Go.RowKit
open Go.Op (bytesLess)
set_option maxHeartbeats 4000000 in
theorem ap_keep (P : Nat) (W : World) (Out : List Pr) (a : Pr) (p : Option Addr) (hP : OutP W P Out) (hl : Out.length ≤ 500) (hx : PAt W p (some a)) :
    Calls Try.prog 36 #[.pointer p, .pointer none, .pointer (some ⟨P, 0, none⟩)] W fun e W' => e = .returned (.bool true) ∧ Below P W W' ∧ OutP W' P (Out ++ [a]) := by
  obtain ⟨b, o, rfl, hxb, hxh0, hxh1⟩ := hx
  have hxc0 := fun ob => al_cell (w := W) hxh0 ob
  have hxc1 := fun ob => al_cell (w := W) hxh1 ob
  have hxn1 : ¬ b = W.heap.size := by omega
  have hxn2 : ¬ W.heap.size = b := by omega
  obtain ⟨B, m, d, hv, hown⟩ := hP
  have hPl := hv.lt
  have hml : m ≤ 500 := by have := hown.1; rw [prs_length] at this; omega
  have VP := hide hv
  have OW := hide hown
  have HPL := hide hPl
  have HML := hide hml
  obtain ⟨v0, v1⟩ := hv.one
  have vc := fun ob => al_cell (w := W) v0 ob
  have vf : ∀ ob, (W.alloc ob).frozen? ⟨P, 0, none⟩ = false := fun ob => (hv.alloc ob).frozen 0
  clear hv hown hPl hml
  go_enter Try.func36, Try.ntmps36
  go_wp2_with fail
  go_region_law (
    refine step_app rfl (.tmp 9) (.tmp 13) 22 rfl (P + 1) 53 (prV pr0) 2 32 Try.underlying22 info53 rfl (by omega) B d m (prs Out) rfl ?_ (some ⟨W.heap.size, 0, none⟩) 1 1 (prs [a]) rfl ?_ (prs_one _) ?_ ?_ ?_ ?_
    · exact OW.out.drew.alloc _
    · exact (Vk.new W.drew 53 [.string ⟨a.k.toArray⟩, .string ⟨a.v.toArray⟩]).rd 2 1 rfl
    · have := HML.out; unfold maxLen; omega
    · have := HML.out; omega
    · have := HPL.out; simp; omega
    intro A6 c6 w6 hown hgr hz
    have neP : some P ≠ (Value.slice B m d).ownBlock := fun e => by have := (own_lt OW.out P e.symm).1; omega
    have VP6 := hide ((VP.out.drew.alloc (.cells #[.string ⟨a.k.toArray⟩, .string ⟨a.v.toArray⟩] 53)).grown hgr neP)
    have HB6 := hide (((Below.refl P W).drew.alloc (by have := HPL.out; simp; omega) (.cells #[.string ⟨a.k.toArray⟩, .string ⟨a.v.toArray⟩] 53)).grown hgr (by have := HPL.out; simp; omega) (fun j hj => by have := (own_lt OW.out j hj).1; omega))
    rw [← prs_app] at hown
    have O6 := hide hown
    obtain ⟨y0, y1⟩ := VP6.out.one
    clear hown hgr hz neP)
  all_goals (
    go_wp2_with fail
    go_ret
    refine ⟨rfl, HB6.out.setCell (Nat.le_refl _) _, ⟨A6, m + 1, c6, ?_, own_off O6.out (fun g hg => by have := (own_lt O6.out g hg).1; show g ≠ P; omega) _⟩⟩
    have Z := VP6.out.set_ 0 (.slice A6 (m + 1) c6)
    simp only [List.set_cons_zero] at Z
    exact Z)
set_option maxHeartbeats 4000000 in
theorem ap_bad_n (P : Nat) (W : World) (e : Ch) (q : Option Addr) (hy : CAt W q (some e)) (hk : e.had = true) :
    Calls Try.prog 36 #[.pointer none, .pointer q, .pointer (some ⟨P, 0, none⟩)] W fun e1 W' => e1 = .returned (.bool false) ∧ Below P W W' := by
  obtain ⟨b2, o2, rfl, hyb, hyh0, hyh1, hyh2, hyh3, hyh4⟩ := hy
  have hyc0 := fun ob => al_cell (w := W) hyh0 ob
  have hyc1 := fun ob => al_cell (w := W) hyh1 ob
  have hyc2 := fun ob => al_cell (w := W) hyh2 ob
  have hyc3 := fun ob => al_cell (w := W) hyh3 ob
  have hyc4 := fun ob => al_cell (w := W) hyh4 ob
  have hyn1 : ¬ b2 = W.heap.size := by omega
  have hyn2 : ¬ W.heap.size = b2 := by omega
  go_enter Try.func36, Try.ntmps36
  go_wp2_with fail
  go_ret
  exact ⟨rfl, Below.refl _ _⟩
set_option maxHeartbeats 4000000 in
theorem ap_bad_s (P : Nat) (W : World) (a : Pr) (p : Option Addr) (e : Ch) (q : Option Addr) (hx : PAt W p (some a)) (hy : CAt W q (some e)) (hk : e.had = false) :
    Calls Try.prog 36 #[.pointer p, .pointer q, .pointer (some ⟨P, 0, none⟩)] W fun e1 W' => e1 = .returned (.bool false) ∧ Below P W W' := by
  obtain ⟨b, o, rfl, hxb, hxh0, hxh1⟩ := hx
  have hxc0 := fun ob => al_cell (w := W) hxh0 ob
  have hxc1 := fun ob => al_cell (w := W) hxh1 ob
  have hxn1 : ¬ b = W.heap.size := by omega
  have hxn2 : ¬ W.heap.size = b := by omega
  obtain ⟨b2, o2, rfl, hyb, hyh0, hyh1, hyh2, hyh3, hyh4⟩ := hy
  have hyc0 := fun ob => al_cell (w := W) hyh0 ob
  have hyc1 := fun ob => al_cell (w := W) hyh1 ob
  have hyc2 := fun ob => al_cell (w := W) hyh2 ob
  have hyc3 := fun ob => al_cell (w := W) hyh3 ob
  have hyc4 := fun ob => al_cell (w := W) hyh4 ob
  have hyn1 : ¬ b2 = W.heap.size := by omega
  have hyn2 : ¬ W.heap.size = b2 := by omega
  go_enter Try.func36, Try.ntmps36
  go_wp2_with fail
  go_ret
  exact ⟨rfl, Below.refl _ _⟩
set_option maxHeartbeats 4000000 in
theorem ap_bad_v (P : Nat) (W : World) (a : Pr) (p : Option Addr) (e : Ch) (q : Option Addr) (hx : PAt W p (some a)) (hy : CAt W q (some e)) (hk : e.had = true) (hv : (a.v == e.was) = false) :
    Calls Try.prog 36 #[.pointer p, .pointer q, .pointer (some ⟨P, 0, none⟩)] W fun e1 W' => e1 = .returned (.bool false) ∧ Below P W W' := by
  obtain ⟨b, o, rfl, hxb, hxh0, hxh1⟩ := hx
  have hxc0 := fun ob => al_cell (w := W) hxh0 ob
  have hxc1 := fun ob => al_cell (w := W) hxh1 ob
  have hxn1 : ¬ b = W.heap.size := by omega
  have hxn2 : ¬ W.heap.size = b := by omega
  obtain ⟨b2, o2, rfl, hyb, hyh0, hyh1, hyh2, hyh3, hyh4⟩ := hy
  have hyc0 := fun ob => al_cell (w := W) hyh0 ob
  have hyc1 := fun ob => al_cell (w := W) hyh1 ob
  have hyc2 := fun ob => al_cell (w := W) hyh2 ob
  have hyc3 := fun ob => al_cell (w := W) hyh3 ob
  have hyc4 := fun ob => al_cell (w := W) hyh4 ob
  have hyn1 : ¬ b2 = W.heap.size := by omega
  have hyn2 : ¬ W.heap.size = b2 := by omega
  go_enter Try.func36, Try.ntmps36
  go_wp2_with fail
  go_quiet (fail)
  go_wp2_with fail
  go_ret
  exact ⟨rfl, Below.drewN' (Below.refl _ _) _⟩
set_option maxHeartbeats 4000000 in
theorem ap_out_n (P : Nat) (W : World) (Out : List Pr) (e : Ch) (q : Option Addr) (hP : OutP W P Out) (hl : Out.length ≤ 500) (hy : CAt W q (some e)) (hk : e.had = false) (hs : e.has = true) :
    Calls Try.prog 36 #[.pointer none, .pointer q, .pointer (some ⟨P, 0, none⟩)] W fun e1 W' => e1 = .returned (.bool true) ∧ Below P W W' ∧ OutP W' P (Out ++ [⟨e.k, e.now⟩]) := by
  obtain ⟨b2, o2, rfl, hyb, hyh0, hyh1, hyh2, hyh3, hyh4⟩ := hy
  have hyc0 := fun m ob => al_cell (w := W.drewN m) hyh0 ob
  have hyc1 := fun m ob => al_cell (w := W.drewN m) hyh1 ob
  have hyc2 := fun m ob => al_cell (w := W.drewN m) hyh2 ob
  have hyc3 := fun m ob => al_cell (w := W.drewN m) hyh3 ob
  have hyc4 := fun m ob => al_cell (w := W.drewN m) hyh4 ob
  have hyn1 : ¬ b2 = W.heap.size := by omega
  have hyn2 : ¬ W.heap.size = b2 := by omega
  obtain ⟨B, m, d, hv1, hown⟩ := hP
  have hPl := hv1.lt
  have hml : m ≤ 500 := by have := hown.1; rw [prs_length] at this; omega
  have VP := hide hv1
  have OW := hide hown
  have HPL := hide hPl
  have HML := hide hml
  obtain ⟨v0, v1⟩ := hv1.one
  have vc := fun m ob => al_cell (w := W.drewN m) v0 ob
  have vf : ∀ m ob, ((W.drewN m).alloc ob).frozen? ⟨P, 0, none⟩ = false := fun m ob => ((hv1.drewN m).alloc ob).frozen 0
  clear hv1 hown hPl hml
  go_enter Try.func36, Try.ntmps36
  go_wp2_with fail
  go_quiet (fail)
  go_wp2_with fail
  go_region_law (
    refine step_app rfl (.tmp 41) (.tmp 51) 22 rfl (P + 1) 53 (prV pr0) 2 32 Try.underlying22 info53 rfl (by omega) B d m (prs Out) rfl ?_ (some ⟨W.heap.size, 0, none⟩) 1 1 (prs [⟨e.k, e.now⟩]) rfl ?_ (prs_one _) ?_ ?_ ?_ ?_
    · exact (own_below OW.out ((Below.drewN' (Below.refl _ _) _).drew)).alloc _
    · exact (Vk.new _ 53 [.string ⟨e.k.toArray⟩, .string ⟨e.now.toArray⟩]).rd 2 1 rfl
    · have := HML.out; unfold maxLen; omega
    · have := HML.out; omega
    · have := HPL.out; simp; omega
    intro A6 c6 w6 hown hgr hz
    have neP : some P ≠ (Value.slice B m d).ownBlock := fun e => by have := (own_lt OW.out P e.symm).1; omega
    have VP6 := hide ((((VP.out.drewN _).drew).alloc (.cells #[.string ⟨e.k.toArray⟩, .string ⟨e.now.toArray⟩] 53)).grown hgr neP)
    have HB6 := hide ((((Below.drewN' (Below.refl P W) _).drew).alloc (by have := HPL.out; simp; omega) (.cells #[.string ⟨e.k.toArray⟩, .string ⟨e.now.toArray⟩] 53)).grown hgr (by have := HPL.out; simp; omega) (fun j hj => by have := (own_lt OW.out j hj).1; omega))
    rw [← prs_app] at hown
    have O6 := hide hown
    obtain ⟨y0, y1⟩ := VP6.out.one
    clear hown hgr hz neP)
  all_goals (
    go_wp2_with fail
    go_ret
    refine ⟨rfl, HB6.out.setCell (Nat.le_refl _) _, ⟨A6, m + 1, c6, ?_, own_off O6.out (fun g hg => by have := (own_lt O6.out g hg).1; show g ≠ P; omega) _⟩⟩
    have Z := VP6.out.set_ 0 (.slice A6 (m + 1) c6)
    simp only [List.set_cons_zero] at Z
    exact Z)
set_option maxHeartbeats 4000000 in
theorem ap_skip_n (P : Nat) (W : World) (e : Ch) (q : Option Addr) (hy : CAt W q (some e)) (hk : e.had = false) (hs : e.has = false) :
    Calls Try.prog 36 #[.pointer none, .pointer q, .pointer (some ⟨P, 0, none⟩)] W fun e1 W' => e1 = .returned (.bool true) ∧ Below P W W' ∧ W'.heap = W.heap := by
  obtain ⟨b2, o2, rfl, hyb, hyh0, hyh1, hyh2, hyh3, hyh4⟩ := hy
  have hyc0 := fun ob => al_cell (w := W) hyh0 ob
  have hyc1 := fun ob => al_cell (w := W) hyh1 ob
  have hyc2 := fun ob => al_cell (w := W) hyh2 ob
  have hyc3 := fun ob => al_cell (w := W) hyh3 ob
  have hyc4 := fun ob => al_cell (w := W) hyh4 ob
  have hyn1 : ¬ b2 = W.heap.size := by omega
  have hyn2 : ¬ W.heap.size = b2 := by omega
  go_enter Try.func36, Try.ntmps36
  go_wp2_with fail
  go_quiet (fail)
  go_wp2_with fail
  go_ret
  exact ⟨rfl, Below.drewN' (Below.refl _ _) _, rfl⟩
set_option maxHeartbeats 4000000 in
theorem ap_out_s (P : Nat) (W : World) (Out : List Pr) (a : Pr) (p : Option Addr) (e : Ch) (q : Option Addr) (hP : OutP W P Out) (hl : Out.length ≤ 500) (hx : PAt W p (some a)) (hy : CAt W q (some e)) (hk : e.had = true) (hv : (a.v == e.was) = true) (hs : e.has = true) :
    Calls Try.prog 36 #[.pointer p, .pointer q, .pointer (some ⟨P, 0, none⟩)] W fun e1 W' => e1 = .returned (.bool true) ∧ Below P W W' ∧ OutP W' P (Out ++ [⟨e.k, e.now⟩]) := by
  obtain ⟨b, o, rfl, hxb, hxh0, hxh1⟩ := hx
  have hxc0 := fun ob => al_cell (w := W) hxh0 ob
  have hxc1 := fun ob => al_cell (w := W) hxh1 ob
  have hxn1 : ¬ b = W.heap.size := by omega
  have hxn2 : ¬ W.heap.size = b := by omega
  obtain ⟨b2, o2, rfl, hyb, hyh0, hyh1, hyh2, hyh3, hyh4⟩ := hy
  have hyc0 := fun m ob => al_cell (w := W.drewN m) hyh0 ob
  have hyc1 := fun m ob => al_cell (w := W.drewN m) hyh1 ob
  have hyc2 := fun m ob => al_cell (w := W.drewN m) hyh2 ob
  have hyc3 := fun m ob => al_cell (w := W.drewN m) hyh3 ob
  have hyc4 := fun m ob => al_cell (w := W.drewN m) hyh4 ob
  have hyn1 : ¬ b2 = W.heap.size := by omega
  have hyn2 : ¬ W.heap.size = b2 := by omega
  obtain ⟨B, m, d, hv1, hown⟩ := hP
  have hPl := hv1.lt
  have hml : m ≤ 500 := by have := hown.1; rw [prs_length] at this; omega
  have VP := hide hv1
  have OW := hide hown
  have HPL := hide hPl
  have HML := hide hml
  obtain ⟨v0, v1⟩ := hv1.one
  have vc := fun m ob => al_cell (w := W.drewN m) v0 ob
  have vf : ∀ m ob, ((W.drewN m).alloc ob).frozen? ⟨P, 0, none⟩ = false := fun m ob => ((hv1.drewN m).alloc ob).frozen 0
  clear hv1 hown hPl hml
  go_enter Try.func36, Try.ntmps36
  go_wp2_with fail
  go_quiet (fail)
  go_wp2_with fail
  go_region_law (
    refine step_app rfl (.tmp 41) (.tmp 51) 22 rfl (P + 1) 53 (prV pr0) 2 32 Try.underlying22 info53 rfl (by omega) B d m (prs Out) rfl ?_ (some ⟨W.heap.size, 0, none⟩) 1 1 (prs [⟨e.k, e.now⟩]) rfl ?_ (prs_one _) ?_ ?_ ?_ ?_
    · exact (own_below OW.out ((Below.drewN' (Below.refl _ _) _).drew)).alloc _
    · exact (Vk.new _ 53 [.string ⟨e.k.toArray⟩, .string ⟨e.now.toArray⟩]).rd 2 1 rfl
    · have := HML.out; unfold maxLen; omega
    · have := HML.out; omega
    · have := HPL.out; simp; omega
    intro A6 c6 w6 hown hgr hz
    have neP : some P ≠ (Value.slice B m d).ownBlock := fun e => by have := (own_lt OW.out P e.symm).1; omega
    have VP6 := hide ((((VP.out.drewN _).drew).alloc (.cells #[.string ⟨e.k.toArray⟩, .string ⟨e.now.toArray⟩] 53)).grown hgr neP)
    have HB6 := hide ((((Below.drewN' (Below.refl P W) _).drew).alloc (by have := HPL.out; simp; omega) (.cells #[.string ⟨e.k.toArray⟩, .string ⟨e.now.toArray⟩] 53)).grown hgr (by have := HPL.out; simp; omega) (fun j hj => by have := (own_lt OW.out j hj).1; omega))
    rw [← prs_app] at hown
    have O6 := hide hown
    obtain ⟨y0, y1⟩ := VP6.out.one
    clear hown hgr hz neP)
  all_goals (
    go_wp2_with fail
    go_ret
    refine ⟨rfl, HB6.out.setCell (Nat.le_refl _) _, ⟨A6, m + 1, c6, ?_, own_off O6.out (fun g hg => by have := (own_lt O6.out g hg).1; show g ≠ P; omega) _⟩⟩
    have Z := VP6.out.set_ 0 (.slice A6 (m + 1) c6)
    simp only [List.set_cons_zero] at Z
    exact Z)
set_option maxHeartbeats 4000000 in
theorem ap_skip_s (P : Nat) (W : World) (a : Pr) (p : Option Addr) (e : Ch) (q : Option Addr) (hx : PAt W p (some a)) (hy : CAt W q (some e)) (hk : e.had = true) (hv : (a.v == e.was) = true) (hs : e.has = false) :
    Calls Try.prog 36 #[.pointer p, .pointer q, .pointer (some ⟨P, 0, none⟩)] W fun e1 W' => e1 = .returned (.bool true) ∧ Below P W W' ∧ W'.heap = W.heap := by
  obtain ⟨b, o, rfl, hxb, hxh0, hxh1⟩ := hx
  have hxc0 := fun ob => al_cell (w := W) hxh0 ob
  have hxc1 := fun ob => al_cell (w := W) hxh1 ob
  have hxn1 : ¬ b = W.heap.size := by omega
  have hxn2 : ¬ W.heap.size = b := by omega
  obtain ⟨b2, o2, rfl, hyb, hyh0, hyh1, hyh2, hyh3, hyh4⟩ := hy
  have hyc0 := fun ob => al_cell (w := W) hyh0 ob
  have hyc1 := fun ob => al_cell (w := W) hyh1 ob
  have hyc2 := fun ob => al_cell (w := W) hyh2 ob
  have hyc3 := fun ob => al_cell (w := W) hyh3 ob
  have hyc4 := fun ob => al_cell (w := W) hyh4 ob
  have hyn1 : ¬ b2 = W.heap.size := by omega
  have hyn2 : ¬ W.heap.size = b2 := by omega
  go_enter Try.func36, Try.ntmps36
  go_wp2_with fail
  go_quiet (fail)
  go_wp2_with fail
  go_ret
  exact ⟨rfl, Below.drewN' (Below.refl _ _) _, rfl⟩
end Go.Proofs.Ytcmlegpfapomnaa

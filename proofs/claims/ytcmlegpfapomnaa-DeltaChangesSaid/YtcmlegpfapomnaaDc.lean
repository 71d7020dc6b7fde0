/- The walk of Between's closure. -/
import Derived.Test.YtcmlegpfapomnaaDb
namespace Go.Proofs.Ytcmlegpfapomnaa
open Go.RowKit
open Go.Op (bytesLess)

theorem Vk.one {w : World} {g : Nat} {e : TypeId} {x : Value} (h : Vk w g e [x]) : w.cell? ⟨g, 0, none⟩ = some x ∧ w.frozen? ⟨g, 0, none⟩ = false := ⟨h.cell 0, h.frozen 0⟩
theorem Vk.five {w : World} {g : Nat} {e : TypeId} {a b c d f : Value} (h : Vk w g e [a, b, c, d, f]) : w.cell? ⟨g, 0, none⟩ = some a ∧ w.cell? ⟨g, 1, none⟩ = some b ∧ w.cell? ⟨g, 2, none⟩ = some c ∧ w.cell? ⟨g, 3, none⟩ = some d ∧ w.cell? ⟨g, 4, none⟩ = some f ∧
    w.frozen? ⟨g, 0, none⟩ = false ∧ w.frozen? ⟨g, 1, none⟩ = false ∧ w.frozen? ⟨g, 2, none⟩ = false ∧ w.frozen? ⟨g, 3, none⟩ = false ∧ w.frozen? ⟨g, 4, none⟩ = false :=
  ⟨h.cell 0, h.cell 1, h.cell 2, h.cell 3, h.cell 4, h.frozen 0, h.frozen 1, h.frozen 2, h.frozen 3, h.frozen 4⟩
theorem info55 : (Try.prog.info? 55).map (fun i => (i.zero, i.size, i.bytes)) = some (some (chV ch0), 5, 56) := by kernel_rfl
theorem info53 : (Try.prog.info? 53).map (fun i => (i.zero, i.size, i.bytes)) = some (some (prV pr0), 2, 32) := by kernel_rfl
theorem al_cell {w : World} {g : Addr} {v : Value} (h : w.cell? g = some v) (o : Obj) : (w.alloc o).cell? g = some v := (World.cell?_alloc_lt w o g (World.block_lt_of_cell? w g h)).trans h
/-- Where a pointer to a pair leads. -/
def PAt (W : World) (p : Option Addr) : Option Pr → Prop
  | none => p = none
  | some x => ∃ b o, p = some ⟨b, o, none⟩ ∧ b < W.heap.size ∧ W.cell? ⟨b, o, none⟩ = some (.string ⟨x.k.toArray⟩) ∧ W.cell? ⟨b, o + 1, none⟩ = some (.string ⟨x.v.toArray⟩)
/-- The changes that were gathered, in the variable that the closure holds. -/
def OutC (W : World) (P : Nat) (Out : List Ch) : Prop := ∃ B m d, Vk W P 25 [.slice B m d] ∧ W.ownsRow (P + 1) 55 5 (.slice B m d) m (chs Out)
/-- What became of a key. -/
def betw (x y : Option Pr) : Ch := ⟨match y with | some b => b.k | none => (match x with | some a => a.k | none => []), (x.map Pr.v).getD [], (y.map Pr.v).getD [], x.isSome, y.isSome⟩
theorem own_off {w : World} {base : Nat} {e : TypeId} {size : Nat} {v : Value} {n : Nat} {xs : List Value} (h : w.ownsRow base e size v n xs) {p : Addr} (hne : ∀ g, v.ownBlock = some g → g ≠ p.block) (u : Value) : (w.setCell p u).ownsRow base e size v n xs := by
  refine ⟨h.1, ?_⟩
  rcases h.2 with h2 | ⟨g, cap, cur, hv, hg, hh, r⟩
  · exact .inl h2
  · exact .inr ⟨g, cap, cur, hv, hg, (Below.heap_setCell w p u g (hne g (by rw [hv]; rfl))).trans hh, r⟩
set_option maxHeartbeats 4000000 in
theorem clo30_x (P : Nat) (W : World) (Out : List Ch) (a : Pr) (p : Option Addr) (hP : OutC W P Out) (hl : Out.length ≤ 500) (hx : PAt W p (some a)) :
    Calls Try.prog 30 #[.pointer p, .pointer none, .pointer (some ⟨P, 0, none⟩)] W fun e W' => e = .returned (.bool true) ∧ OutC W' P (Out ++ if wholeB (betw (some a) (none)) then [betw (some a) (none)] else []) ∧ Below P W W' := by
  obtain ⟨b, o, rfl, hb, h0, h1⟩ := hx
  have c0 := fun ob => al_cell h0 ob
  have c1 := fun ob => al_cell h1 ob
  have ne1 : ¬ b = W.heap.size := by omega
  have ne2 : ¬ W.heap.size = b := by omega
  obtain ⟨B, m, d, hv, hown⟩ := hP
  have hPl := hv.lt
  have hml : m ≤ 500 := by have := hown.1; rw [chs_length] at this; omega
  obtain ⟨c, hc⟩ : ∃ c, betw (some a) (none) = c := ⟨_, rfl⟩
  have WH := hide (fun w => whole_any c w)
  have hcv : chV c = .agg #[.string ⟨a.k.toArray⟩, .string ⟨a.v.toArray⟩, .string ⟨#[]⟩, .bool true, .bool false] := by rw [← hc]; rfl
  have hcc : chC c = [.string ⟨a.k.toArray⟩, .string ⟨a.v.toArray⟩, .string ⟨#[]⟩, .bool true, .bool false] := by rw [← hc]; rfl
  rw [hcv] at WH
  rw [hc]
  have HCC := hide hcc
  have VP := hide (show Vk (W.alloc (.cells #[.string ⟨a.k.toArray⟩, .string ⟨a.v.toArray⟩, .string ⟨#[]⟩, .bool true, .bool false] 55)).drew P 25 [.slice B m d] from hv.alloc _)
  have VC := hide (show Vk (W.alloc (.cells #[.string ⟨a.k.toArray⟩, .string ⟨a.v.toArray⟩, .string ⟨#[]⟩, .bool true, .bool false] 55)).drew W.heap.size 55 [.string ⟨a.k.toArray⟩, .string ⟨a.v.toArray⟩, .string ⟨#[]⟩, .bool true, .bool false] from Vk.new W 55 [.string ⟨a.k.toArray⟩, .string ⟨a.v.toArray⟩, .string ⟨#[]⟩, .bool true, .bool false])
  have OW := hide (show World.ownsRow (W.alloc (.cells #[.string ⟨a.k.toArray⟩, .string ⟨a.v.toArray⟩, .string ⟨#[]⟩, .bool true, .bool false] 55)).drew (P + 1) 55 5 (.slice B m d) m (chs Out) from hown.alloc _)
  have HB := hide (show Below P W (W.alloc (.cells #[.string ⟨a.k.toArray⟩, .string ⟨a.v.toArray⟩, .string ⟨#[]⟩, .bool true, .bool false] 55)).drew from ((Below.refl P W).alloc (by omega) _).drew)
  have HPL := hide hPl
  have HML := hide hml
  obtain ⟨q0, hq⟩ : ∃ q0, wholeB c = q0 := ⟨_, rfl⟩
  rw [hq] at WH ⊢
  clear hc hv hown hcv hcc hPl hml hq
  cases q0
  all_goals
    go_enter Try.func30, Try.ntmps30
    go_wp2_with fail
    go_region_held (fun z => z.cell? ⟨b, o, none⟩ = some (.string ⟨a.k.toArray⟩) ∧ z.cell? ⟨b, o + 1, none⟩ = some (.string ⟨a.v.toArray⟩)) (go_keep) (fail)
    go_wp2_with (first
      | (
         go_at_call 31
         go_loud (
         refine (WH.out _).mono ?_
         rintro r w1 ⟨rfl, hb1⟩
         have VP1 := hide (VP.out.below hb1 VP.out.lt)
         have VC1 := hide (VC.out.below hb1 VC.out.lt)
         have OW1 := hide (own_below OW.out hb1)
         have HB1 := hide (HB.out.trans (hb1.mono (Nat.le_of_lt VP.out.lt)))
         obtain ⟨x0, x1⟩ := VP1.out.one
         obtain ⟨f0, f1, f2, f3, f4, _⟩ := VC1.out.five
         clear hb1))
      | ((with_reducible show wpList _ _ _ (⟨some 38, _, _, _, _, _⟩ :: _) _ _)
         go_loud (
         have hlt := VP1.out.lt
         refine wpList_app rfl (.tmp 35) (.tmp 37) 25 rfl (P + 1) 55 (chV ch0) 5 56 Try.underlying25 info55 rfl (by omega) B d m (chs Out) rfl (OW1.out.alloc _) _ 1 _ (chs [c]) rfl (by
           have hh := (Vk.new w1 55 [.string ⟨a.k.toArray⟩, .string ⟨a.v.toArray⟩, .string ⟨#[]⟩, .bool true, .bool false]).rd 5 1 rfl
           have e : chs [c] = [.string ⟨a.k.toArray⟩, .string ⟨a.v.toArray⟩, .string ⟨#[]⟩, .bool true, .bool false] := by show chC c ++ [] = _; rw [HCC.out]; rfl
           rw [e]
           exact hh) (chs_one _) (by have := HML.out; unfold maxLen; omega) (by have := HML.out; omega) (by simp; omega) ?_
         intro A6 c6 w6 hown hgr hz
         have neP : some P ≠ (Value.slice B m d).ownBlock := fun e => by have := (own_lt OW1.out P e.symm).1; omega
         have VP6 := hide ((VP1.out.alloc (.cells #[.string ⟨a.k.toArray⟩, .string ⟨a.v.toArray⟩, .string ⟨#[]⟩, .bool true, .bool false] 55)).grown hgr neP)
         have HB6 := hide ((HB1.out.alloc (by omega) (.cells #[.string ⟨a.k.toArray⟩, .string ⟨a.v.toArray⟩, .string ⟨#[]⟩, .bool true, .bool false] 55)).grown hgr (by simp; omega) (fun j hj => by have := (own_lt OW1.out j hj).1; omega))
         rw [← chs_app] at hown
         have O6 := hide hown
         obtain ⟨y0, y1⟩ := VP6.out.one
         clear hown hgr hz neP hlt))
    )
  · go_ret
    refine ⟨rfl, ⟨B, m, d, VP1.out, ?_⟩, HB1.out⟩
    simpa using OW1.out
  · go_ret
    refine ⟨rfl, ⟨A6, m + 1, c6, ?_, ?_⟩, HB6.out.setCell (Nat.le_refl _) _⟩
    · have Z := VP6.out.set_ 0 (.slice A6 (m + 1) c6)
      simpa using Z
    · exact own_off O6.out (fun g hg => by have := (own_lt O6.out g hg).1; show g ≠ P; omega) _
set_option maxHeartbeats 4000000 in
theorem clo30_y (P : Nat) (W : World) (Out : List Ch) (a2 : Pr) (q : Option Addr) (hP : OutC W P Out) (hl : Out.length ≤ 500) (hy : PAt W q (some a2)) :
    Calls Try.prog 30 #[.pointer none, .pointer q, .pointer (some ⟨P, 0, none⟩)] W fun e W' => e = .returned (.bool true) ∧ OutC W' P (Out ++ if wholeB (betw (none) (some a2)) then [betw (none) (some a2)] else []) ∧ Below P W W' := by
  obtain ⟨b2, o2, rfl, hb2, k0, k1⟩ := hy
  have e0 := fun ob => al_cell k0 ob
  have e1 := fun ob => al_cell k1 ob
  have ne3 : ¬ b2 = W.heap.size := by omega
  have ne4 : ¬ W.heap.size = b2 := by omega
  obtain ⟨B, m, d, hv, hown⟩ := hP
  have hPl := hv.lt
  have hml : m ≤ 500 := by have := hown.1; rw [chs_length] at this; omega
  obtain ⟨c, hc⟩ : ∃ c, betw (none) (some a2) = c := ⟨_, rfl⟩
  have WH := hide (fun w => whole_any c w)
  have hcv : chV c = .agg #[.string ⟨a2.k.toArray⟩, .string ⟨#[]⟩, .string ⟨a2.v.toArray⟩, .bool false, .bool true] := by rw [← hc]; rfl
  have hcc : chC c = [.string ⟨a2.k.toArray⟩, .string ⟨#[]⟩, .string ⟨a2.v.toArray⟩, .bool false, .bool true] := by rw [← hc]; rfl
  rw [hcv] at WH
  rw [hc]
  have HCC := hide hcc
  have VP := hide (show Vk (W.alloc (.cells #[.string ⟨a2.k.toArray⟩, .string ⟨#[]⟩, .string ⟨a2.v.toArray⟩, .bool false, .bool true] 55)).drew P 25 [.slice B m d] from hv.alloc _)
  have VC := hide (show Vk (W.alloc (.cells #[.string ⟨a2.k.toArray⟩, .string ⟨#[]⟩, .string ⟨a2.v.toArray⟩, .bool false, .bool true] 55)).drew W.heap.size 55 [.string ⟨a2.k.toArray⟩, .string ⟨#[]⟩, .string ⟨a2.v.toArray⟩, .bool false, .bool true] from Vk.new W 55 [.string ⟨a2.k.toArray⟩, .string ⟨#[]⟩, .string ⟨a2.v.toArray⟩, .bool false, .bool true])
  have OW := hide (show World.ownsRow (W.alloc (.cells #[.string ⟨a2.k.toArray⟩, .string ⟨#[]⟩, .string ⟨a2.v.toArray⟩, .bool false, .bool true] 55)).drew (P + 1) 55 5 (.slice B m d) m (chs Out) from hown.alloc _)
  have HB := hide (show Below P W (W.alloc (.cells #[.string ⟨a2.k.toArray⟩, .string ⟨#[]⟩, .string ⟨a2.v.toArray⟩, .bool false, .bool true] 55)).drew from ((Below.refl P W).alloc (by omega) _).drew)
  have HPL := hide hPl
  have HML := hide hml
  obtain ⟨q0, hq⟩ : ∃ q0, wholeB c = q0 := ⟨_, rfl⟩
  rw [hq] at WH ⊢
  clear hc hv hown hcv hcc hPl hml hq
  cases q0
  all_goals
    go_enter Try.func30, Try.ntmps30
    go_wp2_with fail
    go_region_held (fun z => z.cell? ⟨b2, o2, none⟩ = some (.string ⟨a2.k.toArray⟩) ∧ z.cell? ⟨b2, o2 + 1, none⟩ = some (.string ⟨a2.v.toArray⟩)) (go_keep) (fail)
    go_wp2_with (first
      | (
         go_at_call 31
         go_loud (
         refine (WH.out _).mono ?_
         rintro r w1 ⟨rfl, hb1⟩
         have VP1 := hide (VP.out.below hb1 VP.out.lt)
         have VC1 := hide (VC.out.below hb1 VC.out.lt)
         have OW1 := hide (own_below OW.out hb1)
         have HB1 := hide (HB.out.trans (hb1.mono (Nat.le_of_lt VP.out.lt)))
         obtain ⟨x0, x1⟩ := VP1.out.one
         obtain ⟨f0, f1, f2, f3, f4, _⟩ := VC1.out.five
         clear hb1))
      | ((with_reducible show wpList _ _ _ (⟨some 38, _, _, _, _, _⟩ :: _) _ _)
         go_loud (
         have hlt := VP1.out.lt
         refine wpList_app rfl (.tmp 35) (.tmp 37) 25 rfl (P + 1) 55 (chV ch0) 5 56 Try.underlying25 info55 rfl (by omega) B d m (chs Out) rfl (OW1.out.alloc _) _ 1 _ (chs [c]) rfl (by
           have hh := (Vk.new w1 55 [.string ⟨a2.k.toArray⟩, .string ⟨#[]⟩, .string ⟨a2.v.toArray⟩, .bool false, .bool true]).rd 5 1 rfl
           have e : chs [c] = [.string ⟨a2.k.toArray⟩, .string ⟨#[]⟩, .string ⟨a2.v.toArray⟩, .bool false, .bool true] := by show chC c ++ [] = _; rw [HCC.out]; rfl
           rw [e]
           exact hh) (chs_one _) (by have := HML.out; unfold maxLen; omega) (by have := HML.out; omega) (by simp; omega) ?_
         intro A6 c6 w6 hown hgr hz
         have neP : some P ≠ (Value.slice B m d).ownBlock := fun e => by have := (own_lt OW1.out P e.symm).1; omega
         have VP6 := hide ((VP1.out.alloc (.cells #[.string ⟨a2.k.toArray⟩, .string ⟨#[]⟩, .string ⟨a2.v.toArray⟩, .bool false, .bool true] 55)).grown hgr neP)
         have HB6 := hide ((HB1.out.alloc (by omega) (.cells #[.string ⟨a2.k.toArray⟩, .string ⟨#[]⟩, .string ⟨a2.v.toArray⟩, .bool false, .bool true] 55)).grown hgr (by simp; omega) (fun j hj => by have := (own_lt OW1.out j hj).1; omega))
         rw [← chs_app] at hown
         have O6 := hide hown
         obtain ⟨y0, y1⟩ := VP6.out.one
         clear hown hgr hz neP hlt))
    )
  · go_ret
    refine ⟨rfl, ⟨B, m, d, VP1.out, ?_⟩, HB1.out⟩
    simpa using OW1.out
  · go_ret
    refine ⟨rfl, ⟨A6, m + 1, c6, ?_, ?_⟩, HB6.out.setCell (Nat.le_refl _) _⟩
    · have Z := VP6.out.set_ 0 (.slice A6 (m + 1) c6)
      simpa using Z
    · exact own_off O6.out (fun g hg => by have := (own_lt O6.out g hg).1; show g ≠ P; omega) _
set_option maxHeartbeats 4000000 in
theorem clo30_xy (P : Nat) (W : World) (Out : List Ch) (a : Pr) (p : Option Addr) (a2 : Pr) (q : Option Addr) (hP : OutC W P Out) (hl : Out.length ≤ 500) (hx : PAt W p (some a)) (hy : PAt W q (some a2)) :
    Calls Try.prog 30 #[.pointer p, .pointer q, .pointer (some ⟨P, 0, none⟩)] W fun e W' => e = .returned (.bool true) ∧ OutC W' P (Out ++ if wholeB (betw (some a) (some a2)) then [betw (some a) (some a2)] else []) ∧ Below P W W' := by
  obtain ⟨b, o, rfl, hb, h0, h1⟩ := hx
  have c0 := fun ob => al_cell h0 ob
  have c1 := fun ob => al_cell h1 ob
  have ne1 : ¬ b = W.heap.size := by omega
  have ne2 : ¬ W.heap.size = b := by omega
  obtain ⟨b2, o2, rfl, hb2, k0, k1⟩ := hy
  have e0 := fun ob => al_cell k0 ob
  have e1 := fun ob => al_cell k1 ob
  have ne3 : ¬ b2 = W.heap.size := by omega
  have ne4 : ¬ W.heap.size = b2 := by omega
  obtain ⟨B, m, d, hv, hown⟩ := hP
  have hPl := hv.lt
  have hml : m ≤ 500 := by have := hown.1; rw [chs_length] at this; omega
  obtain ⟨c, hc⟩ : ∃ c, betw (some a) (some a2) = c := ⟨_, rfl⟩
  have WH := hide (fun w => whole_any c w)
  have hcv : chV c = .agg #[.string ⟨a2.k.toArray⟩, .string ⟨a.v.toArray⟩, .string ⟨a2.v.toArray⟩, .bool true, .bool true] := by rw [← hc]; rfl
  have hcc : chC c = [.string ⟨a2.k.toArray⟩, .string ⟨a.v.toArray⟩, .string ⟨a2.v.toArray⟩, .bool true, .bool true] := by rw [← hc]; rfl
  rw [hcv] at WH
  rw [hc]
  have HCC := hide hcc
  have VP := hide (show Vk (W.alloc (.cells #[.string ⟨a2.k.toArray⟩, .string ⟨a.v.toArray⟩, .string ⟨a2.v.toArray⟩, .bool true, .bool true] 55)).drew.drew P 25 [.slice B m d] from hv.alloc _)
  have VC := hide (show Vk (W.alloc (.cells #[.string ⟨a2.k.toArray⟩, .string ⟨a.v.toArray⟩, .string ⟨a2.v.toArray⟩, .bool true, .bool true] 55)).drew.drew W.heap.size 55 [.string ⟨a2.k.toArray⟩, .string ⟨a.v.toArray⟩, .string ⟨a2.v.toArray⟩, .bool true, .bool true] from Vk.new W 55 [.string ⟨a2.k.toArray⟩, .string ⟨a.v.toArray⟩, .string ⟨a2.v.toArray⟩, .bool true, .bool true])
  have OW := hide (show World.ownsRow (W.alloc (.cells #[.string ⟨a2.k.toArray⟩, .string ⟨a.v.toArray⟩, .string ⟨a2.v.toArray⟩, .bool true, .bool true] 55)).drew.drew (P + 1) 55 5 (.slice B m d) m (chs Out) from hown.alloc _)
  have HB := hide (show Below P W (W.alloc (.cells #[.string ⟨a2.k.toArray⟩, .string ⟨a.v.toArray⟩, .string ⟨a2.v.toArray⟩, .bool true, .bool true] 55)).drew.drew from (((Below.refl P W).alloc (by omega) _).drew).drew)
  have HPL := hide hPl
  have HML := hide hml
  obtain ⟨q0, hq⟩ : ∃ q0, wholeB c = q0 := ⟨_, rfl⟩
  rw [hq] at WH ⊢
  clear hc hv hown hcv hcc hPl hml hq
  cases q0
  all_goals
    go_enter Try.func30, Try.ntmps30
    go_wp2_with fail
    go_region_held (fun z => z.cell? ⟨b, o, none⟩ = some (.string ⟨a.k.toArray⟩) ∧ z.cell? ⟨b, o + 1, none⟩ = some (.string ⟨a.v.toArray⟩)) (go_keep) (fail)
    go_wp2_with fail
    go_region_held (fun z => z.cell? ⟨b2, o2, none⟩ = some (.string ⟨a2.k.toArray⟩) ∧ z.cell? ⟨b2, o2 + 1, none⟩ = some (.string ⟨a2.v.toArray⟩)) (go_keep) (fail)
    go_wp2_with (first
      | (
         go_at_call 31
         go_loud (
         refine (WH.out _).mono ?_
         rintro r w1 ⟨rfl, hb1⟩
         have VP1 := hide (VP.out.below hb1 VP.out.lt)
         have VC1 := hide (VC.out.below hb1 VC.out.lt)
         have OW1 := hide (own_below OW.out hb1)
         have HB1 := hide (HB.out.trans (hb1.mono (Nat.le_of_lt VP.out.lt)))
         obtain ⟨x0, x1⟩ := VP1.out.one
         obtain ⟨f0, f1, f2, f3, f4, _⟩ := VC1.out.five
         clear hb1))
      | ((with_reducible show wpList _ _ _ (⟨some 38, _, _, _, _, _⟩ :: _) _ _)
         go_loud (
         have hlt := VP1.out.lt
         refine wpList_app rfl (.tmp 35) (.tmp 37) 25 rfl (P + 1) 55 (chV ch0) 5 56 Try.underlying25 info55 rfl (by omega) B d m (chs Out) rfl (OW1.out.alloc _) _ 1 _ (chs [c]) rfl (by
           have hh := (Vk.new w1 55 [.string ⟨a2.k.toArray⟩, .string ⟨a.v.toArray⟩, .string ⟨a2.v.toArray⟩, .bool true, .bool true]).rd 5 1 rfl
           have e : chs [c] = [.string ⟨a2.k.toArray⟩, .string ⟨a.v.toArray⟩, .string ⟨a2.v.toArray⟩, .bool true, .bool true] := by show chC c ++ [] = _; rw [HCC.out]; rfl
           rw [e]
           exact hh) (chs_one _) (by have := HML.out; unfold maxLen; omega) (by have := HML.out; omega) (by simp; omega) ?_
         intro A6 c6 w6 hown hgr hz
         have neP : some P ≠ (Value.slice B m d).ownBlock := fun e => by have := (own_lt OW1.out P e.symm).1; omega
         have VP6 := hide ((VP1.out.alloc (.cells #[.string ⟨a2.k.toArray⟩, .string ⟨a.v.toArray⟩, .string ⟨a2.v.toArray⟩, .bool true, .bool true] 55)).grown hgr neP)
         have HB6 := hide ((HB1.out.alloc (by omega) (.cells #[.string ⟨a2.k.toArray⟩, .string ⟨a.v.toArray⟩, .string ⟨a2.v.toArray⟩, .bool true, .bool true] 55)).grown hgr (by simp; omega) (fun j hj => by have := (own_lt OW1.out j hj).1; omega))
         rw [← chs_app] at hown
         have O6 := hide hown
         obtain ⟨y0, y1⟩ := VP6.out.one
         clear hown hgr hz neP hlt))
    )
  · go_ret
    refine ⟨rfl, ⟨B, m, d, VP1.out, ?_⟩, HB1.out⟩
    simpa using OW1.out
  · go_ret
    refine ⟨rfl, ⟨A6, m + 1, c6, ?_, ?_⟩, HB6.out.setCell (Nat.le_refl _) _⟩
    · have Z := VP6.out.set_ 0 (.slice A6 (m + 1) c6)
      simpa using Z
    · exact own_off O6.out (fun g hg => by have := (own_lt O6.out g hg).1; show g ≠ P; omega) _
theorem clo30 (P : Nat) (W : World) (Out : List Ch) (x y : Option Pr) (p q : Option Addr) (hP : OutC W P Out) (hl : Out.length ≤ 500) (hx : PAt W p x) (hy : PAt W q y) (hne : x ≠ none ∨ y ≠ none) :
    Calls Try.prog 30 #[.pointer p, .pointer q, .pointer (some ⟨P, 0, none⟩)] W fun e W' => e = .returned (.bool true) ∧ OutC W' P (Out ++ if wholeB (betw x y) then [betw x y] else []) ∧ Below P W W' := by
  cases x with
  | none =>
    cases y with
    | none => exact absurd rfl (hne.elim id id)
    | some a2 =>
      have e : p = none := hx
      subst e
      exact clo30_y P W Out a2 q hP hl hy
  | some a =>
    cases y with
    | none =>
      have e : q = none := hy
      subst e
      exact clo30_x P W Out a p hP hl hx
    | some a2 => exact clo30_xy P W Out a p a2 q hP hl hx hy
end Go.Proofs.Ytcmlegpfapomnaa

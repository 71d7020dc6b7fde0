/- The walks of the closures of Then and of Apply. -/
import Derived.Test.YtcmlegpfapomnaaDc
namespace Go.Proofs.Ytcmlegpfapomnaa
open Go.RowKit
open Go.Op (bytesLess)

/-- Where a pointer to a change leads. -/
def CAt (W : World) (p : Option Addr) : Option Ch → Prop
  | none => p = none
  | some x => ∃ b o, p = some ⟨b, o, none⟩ ∧ b < W.heap.size ∧ W.cell? ⟨b, o, none⟩ = some (.string ⟨x.k.toArray⟩) ∧ W.cell? ⟨b, o + 1, none⟩ = some (.string ⟨x.was.toArray⟩) ∧ W.cell? ⟨b, o + 2, none⟩ = some (.string ⟨x.now.toArray⟩) ∧ W.cell? ⟨b, o + 3, none⟩ = some (.bool x.had) ∧ W.cell? ⟨b, o + 4, none⟩ = some (.bool x.has)
/-- The pairs that were gathered, in the variable that the closure holds. -/
def OutP (W : World) (P : Nat) (Out : List Pr) : Prop := ∃ B m d, Vk W P 22 [.slice B m d] ∧ W.ownsRow (P + 1) 53 2 (.slice B m d) m (prs Out)
def thenOk : Option Ch → Option Ch → Bool
  | some a, some b => (a.now == b.was) && (a.has == b.had)
  | _, _ => true
def thenOut : Option Ch → Option Ch → List Ch
  | some a, some b => if wholeB ⟨a.k, a.was, b.now, a.had, b.has⟩ then [⟨a.k, a.was, b.now, a.had, b.has⟩] else []
  | some a, none => [a]
  | none, some b => [b]
  | none, none => []
def apOk : Option Pr → Option Ch → Bool
  | _, none => true
  | none, some c => c.had == false
  | some p, some c => (c.had == true) && (p.v == c.was)
def apOut : Option Pr → Option Ch → List Pr
  | some p, none => [p]
  | none, none => []
  | _, some c => if c.has then [⟨c.k, c.now⟩] else []
set_option maxHeartbeats 4000000 in
theorem then_x (P : Nat) (W : World) (Out : List Ch) (a : Ch) (p : Option Addr) (hP : OutC W P Out) (hl : Out.length ≤ 500) (hx : CAt W p (some a)) :
    Calls Try.prog 34 #[.pointer p, .pointer none, .pointer (some ⟨P, 0, none⟩)] W fun e W' => e = .returned (.bool true) ∧ Below P W W' ∧ OutC W' P (Out ++ [a]) := by
  obtain ⟨b, o, rfl, hxb, hxh0, hxh1, hxh2, hxh3, hxh4⟩ := hx
  have hxc0 := fun ob => al_cell (w := W) hxh0 ob
  have hxc1 := fun ob => al_cell (w := W) hxh1 ob
  have hxc2 := fun ob => al_cell (w := W) hxh2 ob
  have hxc3 := fun ob => al_cell (w := W) hxh3 ob
  have hxc4 := fun ob => al_cell (w := W) hxh4 ob
  have hxn1 : ¬ b = W.heap.size := by omega
  have hxn2 : ¬ W.heap.size = b := by omega
  obtain ⟨B, m, d, hv, hown⟩ := hP
  have hPl := hv.lt
  have hml : m ≤ 500 := by have := hown.1; rw [chs_length] at this; omega
  have VP := hide hv
  have OW := hide hown
  have HPL := hide hPl
  have HML := hide hml
  obtain ⟨v0, v1⟩ := hv.one
  have vc := fun ob => al_cell (w := W) v0 ob
  have vf : ∀ ob, (W.alloc ob).frozen? ⟨P, 0, none⟩ = false := fun ob => (hv.alloc ob).frozen 0
  clear hv hown hPl hml
  go_enter Try.func34, Try.ntmps34
  go_wp2_with fail
  go_region_law (
    refine step_app rfl (.tmp 37) (.tmp 41) 25 rfl (P + 1) 55 (chV ch0) 5 56 Try.underlying25 info55 rfl (by omega) B d m (chs Out) rfl ?_ (some ⟨W.heap.size, 0, none⟩) 1 1 (chs [a]) rfl ?_ (chs_one _) ?_ ?_ ?_ ?_
    · exact OW.out.drew.alloc _
    · exact (Vk.new W.drew 55 [.string ⟨a.k.toArray⟩, .string ⟨a.was.toArray⟩, .string ⟨a.now.toArray⟩, .bool a.had, .bool a.has]).rd 5 1 rfl
    · have := HML.out; unfold maxLen; omega
    · have := HML.out; omega
    · have := HPL.out; simp; omega
    intro A6 c6 w6 hown hgr hz
    have neP : some P ≠ (Value.slice B m d).ownBlock := fun e => by have := (own_lt OW.out P e.symm).1; omega
    have VP6 := hide ((VP.out.drew.alloc (.cells #[.string ⟨a.k.toArray⟩, .string ⟨a.was.toArray⟩, .string ⟨a.now.toArray⟩, .bool a.had, .bool a.has] 55)).grown hgr neP)
    have HB6 := hide (((Below.refl P W).drew.alloc (by have := HPL.out; simp; omega) (.cells #[.string ⟨a.k.toArray⟩, .string ⟨a.was.toArray⟩, .string ⟨a.now.toArray⟩, .bool a.had, .bool a.has] 55)).grown hgr (by have := HPL.out; simp; omega) (fun j hj => by have := (own_lt OW.out j hj).1; omega))
    rw [← chs_app] at hown
    have O6 := hide hown
    obtain ⟨y0, y1⟩ := VP6.out.one
    clear hown hgr hz neP)
  all_goals (
    go_wp2_with fail
    go_ret
    refine ⟨rfl, HB6.out.setCell (Nat.le_refl _) _, ⟨A6, m + 1, c6, ?_, own_off O6.out (fun g hg => by have := (own_lt O6.out g hg).1; show g ≠ P; omega) _⟩⟩
    have Z := VP6.out.set_ 0 (.slice A6 (m + 1) c6)
    simp only [List.set_cons_zero] at Z
    exact Z)
set_option maxHeartbeats 4000000 in
theorem then_y (P : Nat) (W : World) (Out : List Ch) (a : Ch) (p : Option Addr) (hP : OutC W P Out) (hl : Out.length ≤ 500) (hx : CAt W p (some a)) :
    Calls Try.prog 34 #[.pointer none, .pointer p, .pointer (some ⟨P, 0, none⟩)] W fun e W' => e = .returned (.bool true) ∧ Below P W W' ∧ OutC W' P (Out ++ [a]) := by
  obtain ⟨b, o, rfl, hxb, hxh0, hxh1, hxh2, hxh3, hxh4⟩ := hx
  have hxc0 := fun ob => al_cell (w := W) hxh0 ob
  have hxc1 := fun ob => al_cell (w := W) hxh1 ob
  have hxc2 := fun ob => al_cell (w := W) hxh2 ob
  have hxc3 := fun ob => al_cell (w := W) hxh3 ob
  have hxc4 := fun ob => al_cell (w := W) hxh4 ob
  have hxn1 : ¬ b = W.heap.size := by omega
  have hxn2 : ¬ W.heap.size = b := by omega
  obtain ⟨B, m, d, hv, hown⟩ := hP
  have hPl := hv.lt
  have hml : m ≤ 500 := by have := hown.1; rw [chs_length] at this; omega
  have VP := hide hv
  have OW := hide hown
  have HPL := hide hPl
  have HML := hide hml
  obtain ⟨v0, v1⟩ := hv.one
  have vc := fun ob => al_cell (w := W) v0 ob
  have vf : ∀ ob, (W.alloc ob).frozen? ⟨P, 0, none⟩ = false := fun ob => (hv.alloc ob).frozen 0
  clear hv hown hPl hml
  go_enter Try.func34, Try.ntmps34
  go_wp2_with fail
  go_region_law (
    refine step_app rfl (.tmp 46) (.tmp 50) 25 rfl (P + 1) 55 (chV ch0) 5 56 Try.underlying25 info55 rfl (by omega) B d m (chs Out) rfl ?_ (some ⟨W.heap.size, 0, none⟩) 1 1 (chs [a]) rfl ?_ (chs_one _) ?_ ?_ ?_ ?_
    · exact OW.out.drew.alloc _
    · exact (Vk.new W.drew 55 [.string ⟨a.k.toArray⟩, .string ⟨a.was.toArray⟩, .string ⟨a.now.toArray⟩, .bool a.had, .bool a.has]).rd 5 1 rfl
    · have := HML.out; unfold maxLen; omega
    · have := HML.out; omega
    · have := HPL.out; simp; omega
    intro A6 c6 w6 hown hgr hz
    have neP : some P ≠ (Value.slice B m d).ownBlock := fun e => by have := (own_lt OW.out P e.symm).1; omega
    have VP6 := hide ((VP.out.drew.alloc (.cells #[.string ⟨a.k.toArray⟩, .string ⟨a.was.toArray⟩, .string ⟨a.now.toArray⟩, .bool a.had, .bool a.has] 55)).grown hgr neP)
    have HB6 := hide (((Below.refl P W).drew.alloc (by have := HPL.out; simp; omega) (.cells #[.string ⟨a.k.toArray⟩, .string ⟨a.was.toArray⟩, .string ⟨a.now.toArray⟩, .bool a.had, .bool a.has] 55)).grown hgr (by have := HPL.out; simp; omega) (fun j hj => by have := (own_lt OW.out j hj).1; omega))
    rw [← chs_app] at hown
    have O6 := hide hown
    obtain ⟨y0, y1⟩ := VP6.out.one
    clear hown hgr hz neP)
  all_goals (
    go_wp2_with fail
    go_ret
    refine ⟨rfl, HB6.out.setCell (Nat.le_refl _) _, ⟨A6, m + 1, c6, ?_, own_off O6.out (fun g hg => by have := (own_lt O6.out g hg).1; show g ≠ P; omega) _⟩⟩
    have Z := VP6.out.set_ 0 (.slice A6 (m + 1) c6)
    simp only [List.set_cons_zero] at Z
    exact Z)
set_option maxHeartbeats 4000000 in
theorem then_bad (P : Nat) (W : World) (a : Ch) (p : Option Addr) (a2 : Ch) (q : Option Addr) (hx : CAt W p (some a)) (hy : CAt W q (some a2)) (hk : thenOk (some a) (some a2) = false) :
    Calls Try.prog 34 #[.pointer p, .pointer q, .pointer (some ⟨P, 0, none⟩)] W fun e W' => e = .returned (.bool false) ∧ Below P W W' := by
  obtain ⟨b, o, rfl, hxb, hxh0, hxh1, hxh2, hxh3, hxh4⟩ := hx
  have hxc0 := fun ob => al_cell (w := W) hxh0 ob
  have hxc1 := fun ob => al_cell (w := W) hxh1 ob
  have hxc2 := fun ob => al_cell (w := W) hxh2 ob
  have hxc3 := fun ob => al_cell (w := W) hxh3 ob
  have hxc4 := fun ob => al_cell (w := W) hxh4 ob
  have hxn1 : ¬ b = W.heap.size := by omega
  have hxn2 : ¬ W.heap.size = b := by omega
  obtain ⟨b2, o2, rfl, hyb, hyh0, hyh1, hyh2, hyh3, hyh4⟩ := hy
  have hyc0 := fun ob => al_cell (w := W) hyh0 ob
  have hyc1 := fun ob => al_cell (w := W) hyh1 ob
  have hyc2 := fun ob => al_cell (w := W) hyh2 ob
  have hyc3 := fun ob => al_cell (w := W) hyh3 ob
  have hyc4 := fun ob => al_cell (w := W) hyh4 ob
  have hyn1 : ¬ b2 = W.heap.size := by omega
  have hyn2 : ¬ W.heap.size = b2 := by omega
  obtain ⟨u, hu⟩ : ∃ u, (a.now == a2.was) = u := ⟨_, rfl⟩
  obtain ⟨v, hv⟩ : ∃ v, (a.has == a2.had) = v := ⟨_, rfl⟩
  unfold thenOk at hk
  dsimp only at hk
  rw [hu, hv] at hk
  have hv2 : (a.has != a2.had) = !v := by rw [← hv]; rfl
  cases u
  · go_enter Try.func34, Try.ntmps34
    go_wp2_with fail
    go_quiet (fail)
    all_goals (
      go_wp2_with fail
      go_ret
      exact ⟨rfl, Below.drewN' (Below.refl _ _) _⟩)
  · cases v
    · go_enter Try.func34, Try.ntmps34
      go_wp2_with fail
      go_quiet (fail)
      all_goals (
        go_wp2_with fail
        go_ret
        exact ⟨rfl, Below.drewN' (Below.refl _ _) _⟩)
    · simp at hk
set_option maxHeartbeats 4000000 in
theorem then_good (P : Nat) (W : World) (Out : List Ch) (a : Ch) (p : Option Addr) (a2 : Ch) (q : Option Addr) (hP : OutC W P Out) (hl : Out.length ≤ 500) (hx : CAt W p (some a)) (hy : CAt W q (some a2)) (hk : thenOk (some a) (some a2) = true) :
    Calls Try.prog 34 #[.pointer p, .pointer q, .pointer (some ⟨P, 0, none⟩)] W fun e W' => e = .returned (.bool true) ∧ Below P W W' ∧ OutC W' P (Out ++ thenOut (some a) (some a2)) := by
  obtain ⟨b, o, rfl, hxb, hxh0, hxh1, hxh2, hxh3, hxh4⟩ := hx
  have hxc0 := fun ob => al_cell (w := W) hxh0 ob
  have hxc1 := fun ob => al_cell (w := W) hxh1 ob
  have hxc2 := fun ob => al_cell (w := W) hxh2 ob
  have hxc3 := fun ob => al_cell (w := W) hxh3 ob
  have hxc4 := fun ob => al_cell (w := W) hxh4 ob
  have hxn1 : ¬ b = W.heap.size := by omega
  have hxn2 : ¬ W.heap.size = b := by omega
  obtain ⟨b2, o2, rfl, hyb, hyh0, hyh1, hyh2, hyh3, hyh4⟩ := hy
  have hyc0 := fun ob => al_cell (w := W) hyh0 ob
  have hyc1 := fun ob => al_cell (w := W) hyh1 ob
  have hyc2 := fun ob => al_cell (w := W) hyh2 ob
  have hyc3 := fun ob => al_cell (w := W) hyh3 ob
  have hyc4 := fun ob => al_cell (w := W) hyh4 ob
  have hyn1 : ¬ b2 = W.heap.size := by omega
  have hyn2 : ¬ W.heap.size = b2 := by omega
  obtain ⟨B, m, d, hv0, hown⟩ := hP
  have hPl := hv0.lt
  have hml : m ≤ 500 := by have := hown.1; rw [chs_length] at this; omega
  obtain ⟨c, hc⟩ : ∃ c : Ch, (⟨a.k, a.was, a2.now, a.had, a2.has⟩ : Ch) = c := ⟨_, rfl⟩
  have WH := hide (fun w => whole_any c w)
  have hcv : chV c = .agg #[.string ⟨a.k.toArray⟩, .string ⟨a.was.toArray⟩, .string ⟨a2.now.toArray⟩, .bool a.had, .bool a2.has] := by rw [← hc]; rfl
  have hcc : chC c = [.string ⟨a.k.toArray⟩, .string ⟨a.was.toArray⟩, .string ⟨a2.now.toArray⟩, .bool a.had, .bool a2.has] := by rw [← hc]; rfl
  rw [hcv] at WH
  have hto : thenOut (some a) (some a2) = if wholeB c then [c] else [] := by rw [← hc]; rfl
  rw [hto]
  have HCC := hide hcc
  have VP := hide hv0
  have OW := hide hown
  have HPL := hide hPl
  have HML := hide hml
  obtain ⟨q0, hq⟩ : ∃ q0, wholeB c = q0 := ⟨_, rfl⟩
  rw [hq] at WH ⊢
  unfold thenOk at hk
  dsimp only at hk
  rw [Bool.and_eq_true] at hk
  have hu := hk.1
  have hv := hk.2
  have hv2 : (a.has != a2.had) = false := by rw [beq_iff_eq] at hv; simp [hv]
  have zc0 : ∀ m, ((W.drewN m).alloc (.cells #[.string ⟨#[]⟩, .string ⟨#[]⟩, .string ⟨#[]⟩, .bool false, .bool false] 55)).cell? ⟨W.heap.size, 0, none⟩ = some (.string ⟨#[]⟩) := fun m => (Vk.new (W.drewN m) 55 [.string ⟨#[]⟩, .string ⟨#[]⟩, .string ⟨#[]⟩, .bool false, .bool false]).cell 0
  have zf0 : ∀ m, ((W.drewN m).alloc (.cells #[.string ⟨#[]⟩, .string ⟨#[]⟩, .string ⟨#[]⟩, .bool false, .bool false] 55)).frozen? ⟨W.heap.size, 0, none⟩ = false := fun m => (Vk.new (W.drewN m) 55 [.string ⟨#[]⟩, .string ⟨#[]⟩, .string ⟨#[]⟩, .bool false, .bool false]).frozen 0
  have zc1 : ∀ m, ((W.drewN m).alloc (.cells #[.string ⟨#[]⟩, .string ⟨#[]⟩, .string ⟨#[]⟩, .bool false, .bool false] 55)).cell? ⟨W.heap.size, 1, none⟩ = some (.string ⟨#[]⟩) := fun m => (Vk.new (W.drewN m) 55 [.string ⟨#[]⟩, .string ⟨#[]⟩, .string ⟨#[]⟩, .bool false, .bool false]).cell 1
  have zf1 : ∀ m, ((W.drewN m).alloc (.cells #[.string ⟨#[]⟩, .string ⟨#[]⟩, .string ⟨#[]⟩, .bool false, .bool false] 55)).frozen? ⟨W.heap.size, 1, none⟩ = false := fun m => (Vk.new (W.drewN m) 55 [.string ⟨#[]⟩, .string ⟨#[]⟩, .string ⟨#[]⟩, .bool false, .bool false]).frozen 1
  have zc2 : ∀ m, ((W.drewN m).alloc (.cells #[.string ⟨#[]⟩, .string ⟨#[]⟩, .string ⟨#[]⟩, .bool false, .bool false] 55)).cell? ⟨W.heap.size, 2, none⟩ = some (.string ⟨#[]⟩) := fun m => (Vk.new (W.drewN m) 55 [.string ⟨#[]⟩, .string ⟨#[]⟩, .string ⟨#[]⟩, .bool false, .bool false]).cell 2
  have zf2 : ∀ m, ((W.drewN m).alloc (.cells #[.string ⟨#[]⟩, .string ⟨#[]⟩, .string ⟨#[]⟩, .bool false, .bool false] 55)).frozen? ⟨W.heap.size, 2, none⟩ = false := fun m => (Vk.new (W.drewN m) 55 [.string ⟨#[]⟩, .string ⟨#[]⟩, .string ⟨#[]⟩, .bool false, .bool false]).frozen 2
  have zc3 : ∀ m, ((W.drewN m).alloc (.cells #[.string ⟨#[]⟩, .string ⟨#[]⟩, .string ⟨#[]⟩, .bool false, .bool false] 55)).cell? ⟨W.heap.size, 3, none⟩ = some (.bool false) := fun m => (Vk.new (W.drewN m) 55 [.string ⟨#[]⟩, .string ⟨#[]⟩, .string ⟨#[]⟩, .bool false, .bool false]).cell 3
  have zf3 : ∀ m, ((W.drewN m).alloc (.cells #[.string ⟨#[]⟩, .string ⟨#[]⟩, .string ⟨#[]⟩, .bool false, .bool false] 55)).frozen? ⟨W.heap.size, 3, none⟩ = false := fun m => (Vk.new (W.drewN m) 55 [.string ⟨#[]⟩, .string ⟨#[]⟩, .string ⟨#[]⟩, .bool false, .bool false]).frozen 3
  have zc4 : ∀ m, ((W.drewN m).alloc (.cells #[.string ⟨#[]⟩, .string ⟨#[]⟩, .string ⟨#[]⟩, .bool false, .bool false] 55)).cell? ⟨W.heap.size, 4, none⟩ = some (.bool false) := fun m => (Vk.new (W.drewN m) 55 [.string ⟨#[]⟩, .string ⟨#[]⟩, .string ⟨#[]⟩, .bool false, .bool false]).cell 4
  have zf4 : ∀ m, ((W.drewN m).alloc (.cells #[.string ⟨#[]⟩, .string ⟨#[]⟩, .string ⟨#[]⟩, .bool false, .bool false] 55)).frozen? ⟨W.heap.size, 4, none⟩ = false := fun m => (Vk.new (W.drewN m) 55 [.string ⟨#[]⟩, .string ⟨#[]⟩, .string ⟨#[]⟩, .bool false, .bool false]).frozen 4
  clear hc hv0 hown hcv hcc hPl hml hq hto hk
  have VZ := fun m => (((((Vk.new (W.drewN m) 55 [.string ⟨#[]⟩, .string ⟨#[]⟩, .string ⟨#[]⟩, .bool false, .bool false]).set_ 0 (.string ⟨a.k.toArray⟩)).set_ 1 (.string ⟨a.was.toArray⟩)).set_ 2 (.string ⟨a2.now.toArray⟩)).set_ 3 (.bool a.had)).set_ 4 (.bool a2.has)
  simp only [List.set_cons_zero, List.set_cons_succ] at VZ
  have HVZ := hide VZ
  have HZ := hide (fun m => (((((Below.drewN' (Below.refl W.heap.size W) m).alloc (Nat.le_refl _) (.cells #[.string ⟨#[]⟩, .string ⟨#[]⟩, .string ⟨#[]⟩, .bool false, .bool false] 55)).setCell (p := ⟨W.heap.size, 0, none⟩) (Nat.le_refl _) (.string ⟨a.k.toArray⟩)).setCell (p := ⟨W.heap.size, 1, none⟩) (Nat.le_refl _) (.string ⟨a.was.toArray⟩)).setCell (p := ⟨W.heap.size, 2, none⟩) (Nat.le_refl _) (.string ⟨a2.now.toArray⟩)).setCell (p := ⟨W.heap.size, 3, none⟩) (Nat.le_refl _) (.bool a.had))
  clear VZ
  cases q0
  all_goals
    go_enter Try.func34, Try.ntmps34
    go_wp2_with fail
    go_quiet (fail)
    go_upto_region 1 with (fail)
    go_cut [6] (fun t wx => t = .pointer (some ⟨W.heap.size, 0, none⟩) ∧ Vk wx W.heap.size 55 [.string ⟨a.k.toArray⟩, .string ⟨a.was.toArray⟩, .string ⟨a2.now.toArray⟩, .bool a.had, .bool a2.has] ∧ Below W.heap.size W wx)
    case first =>
      go_region_held (fun z => z.cell? ⟨b, o, none⟩ = some (.string ⟨a.k.toArray⟩) ∧ z.cell? ⟨b, o + 1, none⟩ = some (.string ⟨a.was.toArray⟩) ∧ z.cell? ⟨b, o + 2, none⟩ = some (.string ⟨a.now.toArray⟩) ∧ z.cell? ⟨b, o + 3, none⟩ = some (.bool a.had) ∧ z.cell? ⟨b, o + 4, none⟩ = some (.bool a.has) ∧ z.cell? ⟨b2, o2, none⟩ = some (.string ⟨a2.k.toArray⟩) ∧ z.cell? ⟨b2, o2 + 1, none⟩ = some (.string ⟨a2.was.toArray⟩) ∧ z.cell? ⟨b2, o2 + 2, none⟩ = some (.string ⟨a2.now.toArray⟩) ∧ z.cell? ⟨b2, o2 + 3, none⟩ = some (.bool a2.had) ∧ z.cell? ⟨b2, o2 + 4, none⟩ = some (.bool a2.has)) (go_keep) (fail)
      all_goals (
        go_wp2_with fail
        go_meet
        exact ⟨rfl, HVZ.out _, (HZ.out _).setCell (Nat.le_refl _) _⟩)
    case rest =>
      obtain ⟨rfl, hvc, hbc⟩ := hcut
      have VP0 := hide (VP.out.below hbc VP.out.lt)
      have VC0 := hide hvc
      have OW0 := hide (own_below OW.out hbc)
      have HB0 := hide (show Below P W _ from hbc.mono (Nat.le_of_lt VP.out.lt))
      obtain ⟨f0, f1, f2, f3, f4, _⟩ := VC0.out.five
      clear hvc hbc zc0 zc1 zc2 zc3 zc4 zf0 zf1 zf2 zf3 zf4
      go_wp2_with (first
        | (
           go_at_call 31
           go_loud (
           refine (WH.out _).mono ?_
           rintro r w1 ⟨rfl, hb1⟩
           have VP1 := hide (VP0.out.below hb1 VP0.out.lt)
           have VC1 := hide (VC0.out.below hb1 VC0.out.lt)
           have OW1 := hide (own_below OW0.out hb1)
           have HB1 := hide (HB0.out.trans (hb1.mono (Nat.le_of_lt VP0.out.lt)))
           obtain ⟨x0, x1⟩ := VP1.out.one
           obtain ⟨g0, g1, g2, g3, g4, _⟩ := VC1.out.five
           clear hb1))
        | ((with_reducible show wpList _ _ _ (⟨some 33, _, _, _, _, _⟩ :: _) _ _)
           go_loud (
           have hlt := VP1.out.lt
           refine wpList_app rfl (.tmp 30) (.tmp 32) 25 rfl (P + 1) 55 (chV ch0) 5 56 Try.underlying25 info55 rfl (by omega) B d m (chs Out) rfl (OW1.out.alloc _) _ 1 _ (chs [c]) rfl (by
             have hh := (Vk.new w1 55 [.string ⟨a.k.toArray⟩, .string ⟨a.was.toArray⟩, .string ⟨a2.now.toArray⟩, .bool a.had, .bool a2.has]).rd 5 1 rfl
             have e : chs [c] = [.string ⟨a.k.toArray⟩, .string ⟨a.was.toArray⟩, .string ⟨a2.now.toArray⟩, .bool a.had, .bool a2.has] := by show chC c ++ [] = _; rw [HCC.out]; rfl
             rw [e]
             exact hh) (chs_one _) (by have := HML.out; unfold maxLen; omega) (by have := HML.out; omega) (by simp; omega) ?_
           intro A6 c6 w6 hown hgr hz
           have neP : some P ≠ (Value.slice B m d).ownBlock := fun e => by have := (own_lt OW1.out P e.symm).1; omega
           have VP6 := hide ((VP1.out.alloc (.cells #[.string ⟨a.k.toArray⟩, .string ⟨a.was.toArray⟩, .string ⟨a2.now.toArray⟩, .bool a.had, .bool a2.has] 55)).grown hgr neP)
           have HB6 := hide ((HB1.out.alloc (by omega) (.cells #[.string ⟨a.k.toArray⟩, .string ⟨a.was.toArray⟩, .string ⟨a2.now.toArray⟩, .bool a.had, .bool a2.has] 55)).grown hgr (by simp; omega) (fun j hj => by have := (own_lt OW1.out j hj).1; omega))
           rw [← chs_app] at hown
           have O6 := hide hown
           obtain ⟨y0, y1⟩ := VP6.out.one
           clear hown hgr hz neP hlt)))
      first
        | (go_ret
           exact ⟨rfl, HB1.out, ⟨B, m, d, VP1.out, by simpa using OW1.out⟩⟩)
        | (go_ret
           refine ⟨rfl, HB6.out.setCell (Nat.le_refl _) _, ⟨A6, m + 1, c6, ?_, own_off O6.out (fun g hg => by have := (own_lt O6.out g hg).1; show g ≠ P; omega) _⟩⟩
           have Z := VP6.out.set_ 0 (.slice A6 (m + 1) c6)
           simp only [List.set_cons_zero] at Z
           exact Z)
end Go.Proofs.Ytcmlegpfapomnaa

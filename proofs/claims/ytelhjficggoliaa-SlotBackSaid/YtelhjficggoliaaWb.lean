/- The walks of the stamps at a sector's ends. -/
import Derived.Test.YtelhjficggoliaaWa
import Derived.BigRegion
namespace Go.Proofs.Ytelhjficggoliaa
open Go.RowKit

/-- What 'ends' hands back. -/
def EndsPost (f l : List UInt8) (ok : Bool) (w : World) (e : Ending) (w' : World) : Prop :=
  e = .returned (.tuple #[.agg (by8 f).toArray, .agg (by8 l).toArray, .bool ok]) ∧ Below w.heap.size w w'

set_option maxHeartbeats 1000000 in
theorem ends_bad (A : Option Addr) (n c : Nat) (w : World) (hn : n ≠ 256) :
    Calls Try.prog 23 #[.slice A n c] w (EndsPost (zs8 8) (zs8 8) false w) := by
  have hd : ((n : Int) != 256) = true := by rw [bne_iff_ne]; omega
  go_enter Try.func23, Try.ntmps23
  go_wp2
  refine bodyPost_ret (v := .tuple #[.agg (by8 (zs8 8)).toArray, .agg (by8 (zs8 8)).toArray, .bool false]) (by simp [results, Try.results23, go_sem]; rfl) rfl ⟨rfl, ?_⟩
  exact Below.al (Below.al (Below.refl _ _) _) _

theorem getD_lt (l : List UInt8) (k : Nat) (h : k < l.length) : l.getD k 0 = l[k] := by simp [List.getD, h]
theorem eight_at (l : List UInt8) (k : Nat) (h : k + 8 ≤ l.length) : (l.drop k).take 8 = [l.getD k 0, l.getD (k + 1) 0, l.getD (k + 2) 0, l.getD (k + 3) 0, l.getD (k + 4) 0, l.getD (k + 5) 0, l.getD (k + 6) 0, l.getD (k + 7) 0] := by
  rw [getD_lt l k (by omega), getD_lt l (k + 1) (by omega), getD_lt l (k + 2) (by omega), getD_lt l (k + 3) (by omega), getD_lt l (k + 4) (by omega), getD_lt l (k + 5) (by omega), getD_lt l (k + 6) (by omega), getD_lt l (k + 7) (by omega),
    List.drop_eq_getElem_cons (by omega : k < l.length), List.drop_eq_getElem_cons (by omega : k + 1 < l.length), List.drop_eq_getElem_cons (by omega : k + 1 + 1 < l.length), List.drop_eq_getElem_cons (by omega : k + 1 + 1 + 1 < l.length),
    List.drop_eq_getElem_cons (by omega : k + 1 + 1 + 1 + 1 < l.length), List.drop_eq_getElem_cons (by omega : k + 1 + 1 + 1 + 1 + 1 < l.length), List.drop_eq_getElem_cons (by omega : k + 1 + 1 + 1 + 1 + 1 + 1 < l.length), List.drop_eq_getElem_cons (by omega : k + 1 + 1 + 1 + 1 + 1 + 1 + 1 < l.length)]
  rfl

set_option maxHeartbeats 4000000 in
theorem ends_ok (A : Option Addr) (c : Nat) (l : List UInt8) (w : World) (hc : 256 ≤ c) (h : Rb w A 256 l) :
    Calls Try.prog 23 #[.slice A 256 c] w (EndsPost (l.take 8) (l.drop 248) true w) := by
  have hlen := h.len
  have e1 := eight_at l 0 (by omega)
  have e2 := eight_at l 248 (by omega)
  rw [List.drop_zero] at e1
  rw [List.take_of_length_le (by rw [List.length_drop]; omega)] at e2
  simp only [Nat.zero_add, Nat.reduceAdd] at e1 e2
  obtain ⟨b, o, rfl, hb, hcl⟩ := h.at_ (by omega)
  have s1 : ∀ w, (Instr.slice 22 (.slice (some ⟨b, o, none⟩) 256 c) none (some (.int .i64 8)) none).run Try.prog w = .ok (.slice (some ⟨b, o, none⟩) 8 c) w := fun w => by
    have := run_hi slice22 size5 (some ⟨b, o, none⟩) 256 c 8 8 rfl (by omega) w
    rwa [cutA_at b o c 0 (by omega), Nat.add_zero] at this
  have s2 : ∀ w, (Instr.slice 22 (.slice (some ⟨b, o, none⟩) 256 c) (some (.int .i64 248)) none none).run Try.prog w = .ok (.slice (some ⟨b, o + 248, none⟩) 8 (c - 248)) w := fun w => by
    have := run_lo slice22 size5 (some ⟨b, o, none⟩) 256 c 248 248 rfl (by omega) w
    rwa [cutA_at b o c 248 (by omega)] at this
  have a0 : w.cell? ⟨b, o, none⟩ = some (.int .u8 ((l.getD 0 0).toNat : Int)) := hcl 0 (by omega)
  have a1 : w.cell? ⟨b, o + 1, none⟩ = some (.int .u8 ((l.getD 1 0).toNat : Int)) := hcl 1 (by omega)
  have a2 : w.cell? ⟨b, o + 2, none⟩ = some (.int .u8 ((l.getD 2 0).toNat : Int)) := hcl 2 (by omega)
  have a3 : w.cell? ⟨b, o + 3, none⟩ = some (.int .u8 ((l.getD 3 0).toNat : Int)) := hcl 3 (by omega)
  have a4 : w.cell? ⟨b, o + 4, none⟩ = some (.int .u8 ((l.getD 4 0).toNat : Int)) := hcl 4 (by omega)
  have a5 : w.cell? ⟨b, o + 5, none⟩ = some (.int .u8 ((l.getD 5 0).toNat : Int)) := hcl 5 (by omega)
  have a6 : w.cell? ⟨b, o + 6, none⟩ = some (.int .u8 ((l.getD 6 0).toNat : Int)) := hcl 6 (by omega)
  have a7 : w.cell? ⟨b, o + 7, none⟩ = some (.int .u8 ((l.getD 7 0).toNat : Int)) := hcl 7 (by omega)
  have z0 : w.cell? ⟨b, o + 248, none⟩ = some (.int .u8 ((l.getD 248 0).toNat : Int)) := hcl 248 (by omega)
  have z1 : w.cell? ⟨b, o + 248 + 1, none⟩ = some (.int .u8 ((l.getD 249 0).toNat : Int)) := hcl 249 (by omega)
  have z2 : w.cell? ⟨b, o + 248 + 2, none⟩ = some (.int .u8 ((l.getD 250 0).toNat : Int)) := hcl 250 (by omega)
  have z3 : w.cell? ⟨b, o + 248 + 3, none⟩ = some (.int .u8 ((l.getD 251 0).toNat : Int)) := hcl 251 (by omega)
  have z4 : w.cell? ⟨b, o + 248 + 4, none⟩ = some (.int .u8 ((l.getD 252 0).toNat : Int)) := hcl 252 (by omega)
  have z5 : w.cell? ⟨b, o + 248 + 5, none⟩ = some (.int .u8 ((l.getD 253 0).toNat : Int)) := hcl 253 (by omega)
  have z6 : w.cell? ⟨b, o + 248 + 6, none⟩ = some (.int .u8 ((l.getD 254 0).toNat : Int)) := hcl 254 (by omega)
  have z7 : w.cell? ⟨b, o + 248 + 7, none⟩ = some (.int .u8 ((l.getD 255 0).toNat : Int)) := hcl 255 (by omega)
  have t1 : ∀ w, (Instr.arrayAt 51 (.slice (some ⟨b, o, none⟩) 8 c)).run Try.prog w = .ok (.pointer (some ⟨b, o, none⟩)) w := fun w => run_arrayAt w 51 5 8 _ 8 c Try.underlying51 (by omega)
  have t2 : ∀ w, (Instr.arrayAt 51 (.slice (some ⟨b, o + 248, none⟩) 8 (c - 248))).run Try.prog w = .ok (.pointer (some ⟨b, o + 248, none⟩)) w := fun w => run_arrayAt w 51 5 8 _ 8 (c - 248) Try.underlying51 (by omega)
  clear hcl h hlen
  obtain ⟨x0, hx0⟩ : ∃ y, y = l.getD 0 0 := ⟨_, rfl⟩
  rw [← hx0] at a0 e1
  clear hx0
  obtain ⟨x1, hx1⟩ : ∃ y, y = l.getD 1 0 := ⟨_, rfl⟩
  rw [← hx1] at a1 e1
  clear hx1
  obtain ⟨x2, hx2⟩ : ∃ y, y = l.getD 2 0 := ⟨_, rfl⟩
  rw [← hx2] at a2 e1
  clear hx2
  obtain ⟨x3, hx3⟩ : ∃ y, y = l.getD 3 0 := ⟨_, rfl⟩
  rw [← hx3] at a3 e1
  clear hx3
  obtain ⟨x4, hx4⟩ : ∃ y, y = l.getD 4 0 := ⟨_, rfl⟩
  rw [← hx4] at a4 e1
  clear hx4
  obtain ⟨x5, hx5⟩ : ∃ y, y = l.getD 5 0 := ⟨_, rfl⟩
  rw [← hx5] at a5 e1
  clear hx5
  obtain ⟨x6, hx6⟩ : ∃ y, y = l.getD 6 0 := ⟨_, rfl⟩
  rw [← hx6] at a6 e1
  clear hx6
  obtain ⟨x7, hx7⟩ : ∃ y, y = l.getD 7 0 := ⟨_, rfl⟩
  rw [← hx7] at a7 e1
  clear hx7
  obtain ⟨y0, hy0⟩ : ∃ y, y = l.getD 248 0 := ⟨_, rfl⟩
  rw [← hy0] at z0 e2
  clear hy0
  obtain ⟨y1, hy1⟩ : ∃ y, y = l.getD 249 0 := ⟨_, rfl⟩
  rw [← hy1] at z1 e2
  clear hy1
  obtain ⟨y2, hy2⟩ : ∃ y, y = l.getD 250 0 := ⟨_, rfl⟩
  rw [← hy2] at z2 e2
  clear hy2
  obtain ⟨y3, hy3⟩ : ∃ y, y = l.getD 251 0 := ⟨_, rfl⟩
  rw [← hy3] at z3 e2
  clear hy3
  obtain ⟨y4, hy4⟩ : ∃ y, y = l.getD 252 0 := ⟨_, rfl⟩
  rw [← hy4] at z4 e2
  clear hy4
  obtain ⟨y5, hy5⟩ : ∃ y, y = l.getD 253 0 := ⟨_, rfl⟩
  rw [← hy5] at z5 e2
  clear hy5
  obtain ⟨y6, hy6⟩ : ∃ y, y = l.getD 254 0 := ⟨_, rfl⟩
  rw [← hy6] at z6 e2
  clear hy6
  obtain ⟨y7, hy7⟩ : ∃ y, y = l.getD 255 0 := ⟨_, rfl⟩
  rw [← hy7] at z7 e2
  clear hy7
  rw [e1, e2]
  clear e1 e2
  go_enter Try.func23, Try.ntmps23
  go_wp2
  go_region
  go_wp2
  refine bodyPost_ret (v := .tuple #[.agg (by8 [x0, x1, x2, x3, x4, x5, x6, x7]).toArray, .agg (by8 [y0, y1, y2, y3, y4, y5, y6, y7]).toArray, .bool true]) (by simp [results, Try.results23, go_sem, by8]) rfl ⟨rfl, ?_⟩
  exact (Below.al (Below.al (Below.refl _ _) _) _).drew

/-- 'ends', whatever the bytes. -/
def endF (l : List UInt8) : List UInt8 := if l.length = 256 then l.take 8 else zs8 8
def endL (l : List UInt8) : List UInt8 := if l.length = 256 then l.drop 248 else zs8 8
theorem endF_length (l : List UInt8) : (endF l).length = 8 := by
  unfold endF; split
  · rw [List.length_take]; omega
  · exact zs8_length 8
theorem endL_length (l : List UInt8) : (endL l).length = 8 := by
  unfold endL; split
  · rw [List.length_drop]; omega
  · exact zs8_length 8
theorem ends_any (A : Option Addr) (n c : Nat) (l : List UInt8) (w : World) (hnc : n ≤ c) (h : Rb w A n l) :
    Calls Try.prog 23 #[.slice A n c] w (EndsPost (endF l) (endL l) (decide (l.length = 256)) w) := by
  have hl := h.len
  by_cases h1 : n = 256
  · subst h1
    unfold endF endL
    rw [if_pos hl, if_pos hl, decide_eq_true hl]
    exact ends_ok A c l w hnc h
  · unfold endF endL
    rw [if_neg (by omega), if_neg (by omega), decide_eq_false (by omega)]
    exact ends_bad A n c w h1

end Go.Proofs.Ytelhjficggoliaa

/- The walks of both Stamps, for any bytes. -/
import Derived.Test.YtelhjficggoliaaWb
import Derived.Laws.StructEq
namespace Go.Proofs.Ytelhjficggoliaa
open Go.RowKit

theorem eq_arr (a0 a1 a2 a3 a4 a5 a6 a7 b0 b1 b2 b3 b4 b5 b6 b7 : UInt8) (w : World) :
    (Op.equalIn 10000 51 (.agg #[.int .u8 (a0.toNat : Int), .int .u8 (a1.toNat : Int), .int .u8 (a2.toNat : Int), .int .u8 (a3.toNat : Int), .int .u8 (a4.toNat : Int), .int .u8 (a5.toNat : Int), .int .u8 (a6.toNat : Int), .int .u8 (a7.toNat : Int)])
      (.agg #[.int .u8 (b0.toNat : Int), .int .u8 (b1.toNat : Int), .int .u8 (b2.toNat : Int), .int .u8 (b3.toNat : Int), .int .u8 (b4.toNat : Int), .int .u8 (b5.toNat : Int), .int .u8 (b6.toNat : Int), .int .u8 (b7.toNat : Int)])).run Try.prog w =
      .ok ([a0, a1, a2, a3, a4, a5, a6, a7] == [b0, b1, b2, b3, b4, b5, b6, b7]) w := by
  have e : ∀ (x y : UInt8) (w : World), (Op.equalIn 9999 5 (.int .u8 (x.toNat : Int)) (.int .u8 (y.toNat : Int))).run Try.prog w = .ok (x == y) w := fun x y w => by
    have := run_equalIn_int (w := w) (P := Try.prog) 9998 5 .u8 .u8 (x.toNat : Int) (y.toNat : Int) Try.underlying5
    rw [this]
    congr 1
    rw [Bool.eq_iff_iff, beq_iff_eq, beq_iff_eq, ← UInt8.toNat_inj]
    omega
  have hs : ∀ w, (sizeOf 5).run Try.prog w = .ok 1 w := one_size size5
  show (Op.equalIn (9999 + 1) 51 _ _).run _ _ = _
  rw [Op.equalIn]
  generalize h0 : (a0 == b0) = c0
  generalize h1 : (a1 == b1) = c1
  generalize h2 : (a2 == b2) = c2
  generalize h3 : (a3 == b3) = c3
  generalize h4 : (a4 == b4) = c4
  generalize h5 : (a5 == b5) = c5
  generalize h6 : (a6 == b6) = c6
  generalize h7 : (a7 == b7) = c7
  simp [run_underlying Try.underlying51, hs, part, Std.Legacy.Range.forIn_eq_forIn_range', List.range', e, h0, h1, h2, h3, h4, h5, h6, h7]
  cases c0 <;> cases c1 <;> cases c2 <;> cases c3 <;> cases c4 <;> cases c5 <;> cases c6 <;> cases c7 <;> rfl

theorem ends_eight (A : Option Addr) (n c : Nat) (l : List UInt8) (w : World) (hnc : n ≤ c) (h : Rb w A n l) (x0 x1 x2 x3 x4 x5 x6 x7 y0 y1 y2 y3 y4 y5 y6 y7 : UInt8)
    (hf : endF l = [x0, x1, x2, x3, x4, x5, x6, x7]) (hl : endL l = [y0, y1, y2, y3, y4, y5, y6, y7]) :
    Calls Try.prog 23 #[.slice A n c] w fun e w' => e = .returned (.tuple #[.agg #[.int .u8 (x0.toNat : Int), .int .u8 (x1.toNat : Int), .int .u8 (x2.toNat : Int), .int .u8 (x3.toNat : Int), .int .u8 (x4.toNat : Int), .int .u8 (x5.toNat : Int), .int .u8 (x6.toNat : Int), .int .u8 (x7.toNat : Int)], .agg #[.int .u8 (y0.toNat : Int), .int .u8 (y1.toNat : Int), .int .u8 (y2.toNat : Int), .int .u8 (y3.toNat : Int), .int .u8 (y4.toNat : Int), .int .u8 (y5.toNat : Int), .int .u8 (y6.toNat : Int), .int .u8 (y7.toNat : Int)], .bool (decide (l.length = 256))]) ∧ Below w.heap.size w w' := by
  have := ends_any A n c l w hnc h
  rw [hf, hl] at this
  exact this

/-- A sector's stamp: its generation, and whether it has one. -/
def stampB (l : List UInt8) : Bool := decide (l.length = 256) && (endF l == endL l) && decide (1 ≤ genN (endF l))
def stampN (l : List UInt8) : Nat := if stampB l then genN (endF l) else 0
def StampPost (l : List UInt8) (w : World) (e : Ending) (w' : World) : Prop := e = .returned (.tuple #[.int .i64 (stampN l : Nat), .bool (stampB l)]) ∧ Below w.heap.size w w'

set_option maxHeartbeats 4000000 in
theorem stamp_any (A : Option Addr) (n c : Nat) (l : List UInt8) (w : World) (hnc : n ≤ c) (h : Rb w A n l) :
    Calls Try.prog 14 #[.slice A n c] w (StampPost l w) := by
  obtain ⟨x0, x1, x2, x3, x4, x5, x6, x7, hf⟩ := eight_of (endF l) (endF_length l)
  obtain ⟨y0, y1, y2, y3, y4, y5, y6, y7, hl⟩ := eight_of (endL l) (endL_length l)
  have hends := hide (fun w' (h : Rb w' A n l) => ends_eight A n c l w' hnc h x0 x1 x2 x3 x4 x5 x6 x7 y0 y1 y2 y3 y4 y5 y6 y7 hf hl)
  have heq := eq_arr x0 x1 x2 x3 x4 x5 x6 x7 y0 y1 y2 y3 y4 y5 y6 y7
  have hgen := hide (gen_at x0 x1 x2 x3 x4 x5 x6 x7)
  rw [← hf] at heq hgen
  rw [← hl] at heq
  have HF := hide hf
  have HL := hide hl
  clear hf hl
  obtain ⟨f, hf⟩ : ∃ f, f = endF l := ⟨_, rfl⟩
  obtain ⟨g, hg⟩ : ∃ g, g = endL l := ⟨_, rfl⟩
  rw [← hf] at heq hgen
  rw [← hg] at heq
  have H := hide h
  clear h
  obtain ⟨G, hG⟩ : ∃ G, G = genN f := ⟨_, rfl⟩
  have hGb : G ≤ 1099511627776 := by rw [hG]; unfold genN; split <;> omega
  rw [← hG] at hgen
  obtain ⟨ok, hok⟩ : ∃ ok, decide (l.length = 256) = ok := ⟨_, rfl⟩
  obtain ⟨q, hq⟩ : ∃ q, (f == g) = q := ⟨_, rfl⟩
  rw [hok] at hends
  rw [hq] at heq
  have hB : stampB l = (ok && q && decide (1 ≤ G)) := by unfold stampB; rw [← hf, ← hg, ← hG, hok, hq]
  have hN : stampN l = if (ok && q && decide (1 ≤ G)) then G else 0 := by unfold stampN; rw [hB, ← hf, ← hG]
  have HB := hide hB
  have HN := hide hN
  clear hB hN hok hq hG hf hg
  cases ok
  · go_enter Try.func14, Try.ntmps14
    go_wp2_with (go_at_call 23; refine (hends.out _ ?_).mono ?_; exact H.out; rintro e w1 ⟨rfl, hb1⟩; have hb1' := bcell hb1)
    go_ret2
    refine ⟨?_, Below.al (Below.al hb1 _) _⟩
    rw [HB.out, HN.out]; rfl
  · cases q
    · go_enter Try.func14, Try.ntmps14
      go_wp2_with (go_at_call 23; refine (hends.out _ ?_).mono ?_; exact H.out; rintro e w1 ⟨rfl, hb1⟩; have hb1' := bcell hb1)
      go_ret2
      refine ⟨?_, Below.al (Below.al hb1 _) _⟩
      rw [HB.out, HN.out]; rfl
    · by_cases hz : G < 1
      · have HB' := hide (show stampB l = false by rw [HB.out]; simp; omega)
        have HN' := hide (show stampN l = 0 by rw [HN.out]; simp; omega)
        go_enter Try.func14, Try.ntmps14
        go_wp2_with (first
          | (go_at_call 23; refine (hends.out _ ?_).mono ?_; exact H.out; rintro e w1 ⟨rfl, hb1⟩; have hb1' := bcell hb1)
          | (go_at_call 24; refine (hgen.out _).mono ?_; rintro e w2 ⟨rfl, hb2⟩))
        go_ret2
        refine ⟨?_, Below.then_ (Below.al (Below.al hb1 _) _) hb2⟩
        rw [HB'.out, HN'.out]; rfl
      · have HB' := hide (show stampB l = true by rw [HB.out]; simp; omega)
        have HN' := hide (show stampN l = G by rw [HN.out]; simp; omega)
        go_enter Try.func14, Try.ntmps14
        go_wp2_with (first
          | (go_at_call 23; refine (hends.out _ ?_).mono ?_; exact H.out; rintro e w1 ⟨rfl, hb1⟩; have hb1' := bcell hb1)
          | (go_at_call 24; have hR := hbR; refine (hgen.out _).mono ?_; rintro e w3 ⟨rfl, hb3⟩; have hbS := Below.then_ hR hb3)
          | (go_at_call 24; refine (hgen.out _).mono ?_; rintro e w2 ⟨rfl, hb2⟩; have hb2' := bcell hb2; have hbR := Below.then_ (Below.al (Below.al hb1 _) _) hb2))
        go_ret2
        refine ⟨?_, ?_⟩
        · rw [HB'.out, HN'.out]; rfl
        · exact hbS

end Go.Proofs.Ytelhjficggoliaa

/- The walk of the laws' own check 'awake', and of the law WalsecPacks. -/
import Derived.Test.YtmdhckcoinhfpaaWj
import Derived.Test.YtmdhckcoinhfpaaWg
import Derived.Test.YtmdhckcoinhfpaaKeep
namespace Go.Proofs.Ytmdhckcoinhfpaa
open Go.RowKit

def abT : List Tx := [[97, 98]]
def S0 : List UInt8 := layB 256 abT
theorem ab_costs : costs abT = 3 := by decide
theorem ab_parts : parts abT = 1 := (parts_one abT).2 ⟨by decide, by decide⟩
theorem ab_pieces : pieces abT = [abT] := pieces_one (by decide) (by decide)
theorem ab_pack : packE 1 0 abT = 0 ∧ packL 1 0 abT = [S0] := by
  have h := packE_ok (e := 1) (f := 0) (L := abT) (by rw [ab_parts]; omega) (fun ⟨s, h1, h2⟩ => by rw [List.mem_singleton.1 h1] at h2; simp at h2)
  refine ⟨h.1, ?_⟩
  rw [h.2, ab_parts, ab_pieces]
  rfl
theorem ab_ok (a : Int) (h : 0 ≤ a ∧ a ≤ 1) : secOk 1 a := ⟨by omega, by omega, by omega, by omega⟩
theorem ab_sec : isSec (secN 1 0) S0 abT := ⟨by decide, fun s hs => by rw [List.mem_singleton.1 hs]; decide, by decide, rfl⟩
theorem ab_read : readS S0 1 0 = (abT, true) := readS_yes (ab_ok 0 (by omega)) ab_sec
theorem ab_none : readS S0 1 1 = ([], false) := readS_no fun _ l h => by
  have h1 := layB_take (secN 1 1) l
  rw [h.2.2.2, show S0.take 8 = be8 256 from layB_take 256 abT] at h1
  exact absurd h1 (by decide)
theorem ab_scan : scanN [S0, S0] 1 = 1 ∧ textK [S0, S0] 1 1 = abT := by
  refine ⟨scanN_eq ⟨by decide, fun j hj => ?_, fun _ => ?_⟩, ?_⟩
  · obtain rfl : j = 0 := by omega
    show (readS S0 1 0).2 = true
    rw [ab_read]
  · show (readS S0 1 1).2 = false
    rw [ab_none]
  · show [] ++ (readS S0 1 0).1 = abT
    rw [ab_read]; rfl
theorem ab_cut : (S0.drop 6).take 7 = [1, 0, 3, 2, 97, 98, 0] := by decide +kernel
theorem ab_at : (S0.getD 254 0).toNat = 1 := by decide +kernel
theorem ab_len : S0.length = 256 := layB_length 256 abT (by decide)
theorem two_parts : parts [[97], [98]] = 1 := (parts_one _).2 ⟨by decide, by decide⟩
/-- What Pack lays of one text. -/
theorem pack_one {w : World} {base : Nat} {A : Option Addr} {n c : Nat} (h : Obb 34 54 w base A c n [S0]) : n = 1 ∧ ∃ g gA q, A = some ⟨g, 0, none⟩ ∧ w.ownsRow base 34 1 (.slice (some ⟨g, 0, none⟩) 1 c) 1 [.slice (some ⟨gA, 0, none⟩) 256 q] ∧ w.ownsRow base 54 1 (.slice (some ⟨gA, 0, none⟩) 256 q) 256 (by8 S0) := by
  obtain ⟨hl, vs, ho, hi⟩ := h
  obtain rfl : n = 1 := hl.symm
  obtain ⟨A0, n0, q0, h1, h2⟩ := hi 0 S0 rfl
  have hn0 : n0 = 256 := by have := h2.1; rw [by8_length, ab_len, Nat.mul_one] at this; exact this.symm
  subst hn0
  obtain ⟨g, cap, hv, _, _⟩ := ho.form (by omega)
  injection hv with e1 e2 e3
  obtain ⟨gA, capA, hvA, _, _⟩ := h2.form (by omega)
  injection hvA with a1 a2 a3
  subst e1; subst a1
  have hvl : vs.length = 1 := by simpa using ho.1
  match vs, hvl with
  | [v], _ =>
    simp at h1
    subst h1
    exact ⟨rfl, g, gA, q0, rfl, ho, h2⟩
set_option maxRecDepth 100000 in
set_option maxHeartbeats 16000000 in
theorem awake_any (w : World) : Calls Try.prog 8 #[] w fun e w' => e = .returned (.bool true) ∧ Below w.heap.size w w' := by
  have PA := hide (fun A c w h => pack_any 1 0 A 1 c abT w (by omega) h)
  unfold PackPost at PA
  rw [ab_pack.1, ab_pack.2] at PA
  have R0 := hide (fun A c w (hc : 256 ≤ c) h => read_any 1 0 A 256 c S0 w hc h)
  have R1 := hide (fun A c w (hc : 256 ≤ c) h => read_any 1 1 A 256 c S0 w hc h)
  have SC := hide (fun A c w h => scan_any 1 A 2 c [S0, S0] w (by omega) h)
  unfold ReadPost at R0 R1
  unfold ScanPost at SC
  rw [ab_read] at R0
  rw [ab_none] at R1
  rw [ab_scan.1, ab_scan.2] at SC
  have P2 := hide (fun A c w hc h => parts_any A 2 c [[97], [98]] w (by omega) hc h)
  rw [two_parts] at P2
  go_enter Try.func8, Try.ntmps8
  go_wp2_with (first
    | (go_at_call 9
       refine (PA.out _ _ _ (Nat.le_refl 1) ((Vk.new w 9 [.string ⟨#[97, 98]⟩]).rd 1 1 rfl) (by omega)).mono ?_
       rintro r w1 ⟨A1, n1, c1, rfl, ho1, hb1⟩
       obtain ⟨rfl, g, gA, q, rfl, hrow, hin⟩ := pack_one ho1
       have O1 := hide hrow
       have I1 := hide hin
       have HQ := hide (own_cap hin).1
       have c01 : w1.cell? ⟨g, 0, none⟩ = some (.slice (some ⟨gA, 0, none⟩) 256 q) := hrow.cellAt 0 (by omega)
       have HB1 := hide (Below.then_ (Below.al (Below.refl w.heap.size w) _) hb1)
       have glt := (own_lt hrow g rfl).2
       have HGL := hide glt
       clear ho1 hrow hin hb1 glt)
    | (go_at_call_of 14 (Value.int IntKind.i64 0)
       refine (R0.out _ _ _ HQ.out (Rb.of_own I1.out)).mono ?_
       rintro r w2 ⟨AX, nX, cX, rfl, hrX, _, hoX, hb2⟩
       obtain rfl : nX = 1 := hrX.len.symm
       obtain ⟨bX, oX, rfl, hbX, hcX⟩ := hrX.at_ (k := 0) (by omega)
       have HXG := hide (show bX ≠ g from fun h => by have := (own_lt hoX bX rfl).1; have := HGL.out; omega)
       rw [Nat.add_zero] at hcX
       have CX := hide hcX
       have HBX := hide hbX
       have HB2 := hide hb2
       have c02 : w2.cell? ⟨g, 0, none⟩ = some (.slice (some ⟨gA, 0, none⟩) 256 q) := (hb2.cell (p := ⟨g, 0, none⟩) HGL.out).trans c01
       clear hrX hb2 hcX hbX c01 hoX)
    | (go_at_call 14
       refine (R1.out _ _ _ HQ.out (Rb.of_own (own_below I1.out HB2.out))).mono ?_
       rintro r w3 ⟨AZ, nZ, cZ, rfl, _, _, _, hb3⟩
       have HB3 := hide hb3
       have HB13 := hide (Below.then_ HB2.out hb3)
       have c03 : w3.cell? ⟨g, 0, none⟩ = some (.slice (some ⟨gA, 0, none⟩) 256 q) := by
         rw [hb3.cell (p := ⟨g, 0, none⟩) (Nat.lt_of_lt_of_le HGL.out HB2.out.size), c02]
       clear hb3 c02)
    | ((with_reducible show wpList _ _ _ (⟨some 48, _, _, _, _, _⟩ :: _) _ _)
       have N1 := (own_below O1.out HB13.out).alloc (.cells #[.slice (some ⟨gA, 0, none⟩) 256 q] 34)
       have N2 := (own_below I1.out HB13.out).alloc (.cells #[.slice (some ⟨gA, 0, none⟩) 256 q] 34)
       have N3 := Vk.new w3 34 [.slice (some ⟨gA, 0, none⟩) 256 q]
       have N4 := (own_lt N1 g rfl)
       refine wpList_app_keep rfl (.tmp 43) (.tmp 47) 25 rfl _ 34 (.slice none 0 0) 1 24 Try.underlying25 info34 rfl g c1 1 [.slice (some ⟨gA, 0, none⟩) 256 q] rfl N1 w3.heap.size 0 1 _ [.slice (some ⟨gA, 0, none⟩) 256 q] rfl rfl (fun j u hu => by rw [Nat.zero_add, N3.cell, hu]) (by simp [Value.oneCell']) (by unfold maxLen; omega) (by omega) (by omega) ?_
       intro A6 c6 w6 hown hold hgr
       have i6 := N2.kept hgr (own_ne N2 N1 (by decide))
       have I6 := hide i6
       have R6 := hide (show Rbb w6 A6 2 [S0, S0] from ⟨rfl, [.slice (some ⟨gA, 0, none⟩) 256 q, .slice (some ⟨gA, 0, none⟩) 256 q], Rd.of_own hown, fun i l hi => by
         have h2 : i < 2 := (List.getElem?_eq_some_iff.1 hi).1
         have : i = 0 ∨ i = 1 := by omega
         rcases this with rfl | rfl <;> (injection hi with hi; subst hi; exact ⟨_, _, _, rfl, Rb.of_own i6, (own_cap i6).1, (own_cap i6).2⟩)⟩)
       have HB6 := hide ((Below.al (Below.then_ HB1.out HB13.out) (.cells #[.slice (some ⟨gA, 0, none⟩) 256 q] 34)).grown hgr (Below.al (Below.then_ HB1.out HB13.out) _).size (fun j hj => by injection hj with hj; subst hj; have := N4.1; simp at this; omega))
       have c06 : w6.cell? ⟨g, 0, none⟩ = some (.slice (some ⟨gA, 0, none⟩) 256 q) := hold.cellAt 0 (by omega)
       have HGL6 := hide (own_lt hold g rfl).2
       have HX6 := hide (show w6.cell? ⟨bX, oX, none⟩ = some (.string ⟨(nthT abT 0).toArray⟩) from by
         have e1 := World.cell?_of_block (a := ⟨bX, oX, none⟩) (hgr.block bX (by have := HBX.out; have := HB3.out.size; simp; omega) (by intro e; injection e with e; subst e; exact HXG.out rfl))
         rw [e1, World.cell?_alloc_lt _ _ _ (by have := HBX.out; have := HB3.out.size; show bX < w3.heap.size; omega), HB3.out.cell (p := ⟨bX, oX, none⟩) HBX.out, CX.out])
       clear hown hold hgr i6 N1 N2 N3 N4 c03)
    | (go_at_call 17
       refine (SC.out _ _ _ R6.out).mono ?_
       rintro r w7 ⟨AY, nY, cY, rfl, hrY, _, hb7⟩
       obtain rfl : nY = 1 := hrY.len.symm
       have HB7 := hide (Below.then_ HB6.out hb7)
       have c07 : w7.cell? ⟨g, 0, none⟩ = some (.slice (some ⟨gA, 0, none⟩) 256 q) := (hb7.cell (p := ⟨g, 0, none⟩) HGL6.out).trans c06
       have i7 := own_below I6.out hb7
       have x7 : w7.cell? ⟨bX, oX, none⟩ = some (.string ⟨#[97, 98]⟩) := (hb7.cell (p := ⟨bX, oX, none⟩) (World.block_lt_of_cell? w6 _ HX6.out)).trans HX6.out
       have p7 : w7.cell? ⟨gA, 254, none⟩ = some (.int .u8 1) := by
         rw [i7.cellAt 254 (by omega), by8_get S0 254 (by rw [ab_len]; omega), ab_at]; rfl
       have RC7 := hide (by
         have h := (Rb.of_own i7).lohi_ 6 13 q (by omega) (by omega) (own_cap i7).1
         rw [cutA_at gA 0 q 6 (by have := (own_cap i7).1; omega), ab_cut] at h
         exact h)
       have q256 := (own_cap i7).1
       have s7 := run_lohi slice34 size5 (some ⟨gA, 0, none⟩) 256 q 6 13 6 13 rfl rfl (by omega) (by omega)
       rw [cutA_at gA 0 q 6 (by omega)] at s7
       clear hrY hb7 c06 i7)
    | ((with_reducible show wpList _ _ _ (⟨some 56, _, _, _, _, _⟩ :: _) _ _)
       refine wpList_cv rfl (.tmp 55) 34 5 9 rfl Try.underlying34 Try.underlying5 Try.underlying9 _ _ _ rfl [1, 0, 3, 2, 97, 98, 0] RC7.out ?_)
    | (go_at_call 12
       refine (P2.out _ _ _ (Nat.le_refl 2) ((Vk.new w7 9 [.string ⟨#[97]⟩, .string ⟨#[98]⟩]).rd 1 2 rfl)).mono ?_
       rintro r w8 ⟨rfl, rfl⟩))
  go_ret
  exact ⟨rfl, Below.al HB7.out _⟩
/-- Nothing is packed, or as many sectors as there are parts. -/
theorem packL_len (e f : Int) (L : List Tx) : (packL e f L).length ≤ parts L := by
  unfold packL
  split
  · rw [packK_length]; exact Nat.le_refl _
  · exact Nat.zero_le _
set_option maxHeartbeats 8000000 in
theorem packs_any (e f : Int) (A : Option Addr) (n c : Nat) (L : List Tx) (w : World) (hnc : n ≤ c) (hf : -9223372036854775808 ≤ f ∧ f ≤ 9223372036854775807) (h : Rs w A n L) :
    Calls Try.prog 3 #[.int .i64 e, .int .i64 f, .slice A n c] w fun r w' => r = .returned (.bool true) ∧ Below w.heap.size w w' := by
  have H := hide h
  have LI := hide (fun w h => light_any A n c 40 L w (by omega) h)
  have HL := hide h.len
  clear h
  by_cases hl : lightB L 40 = true
  · rw [hl] at LI
    have hn : n ≤ 40 := by have := lightB_len hl; have := HL.out; omega
    have P1 := hide (fun w h => pack_any e f A n c L w (by omega) hnc h hf)
    have P2 := hide (fun w h => rpack_any e f A n c L w (by omega) h hf)
    have P3 := hide (fun w h => parts_any A n c L w (by omega) hnc h)
    have P4 := hide (fun w h => rparts_any A n c L w (by omega) h)
    have HM := hide (packL_len e f L)
    have HPL := hide (parts_le L)
    unfold PackPost at P1 P2
    obtain ⟨E, hE⟩ : ∃ E, packE e f L = E := ⟨_, rfl⟩
    obtain ⟨M, hM⟩ : ∃ M, packL e f L = M := ⟨_, rfl⟩
    obtain ⟨p, hp⟩ : ∃ p, parts L = p := ⟨_, rfl⟩
    rw [hE, hM] at P1 P2
    rw [hp] at P3 P4 HM HPL
    rw [hM] at HM
    have hMl : M.length ≤ 40 := by have := HM.out; have := HPL.out; have := HL.out; omega
    clear hE hM hp hl hf
    go_enter Try.func3, Try.ntmps3
    go_wp2_with (first
      | (go_at_call 7; refine (LI.out _ H.out).mono ?_; rintro r w1 ⟨rfl, rfl⟩)
      | (go_at_call 9; refine (P1.out _ H.out).mono ?_; rintro r w1 ⟨A1, n1, c1, rfl, ho1, hb1⟩
         have R1 := hide ho1.rbb
         obtain rfl := ho1.1
         have HB1 := hide hb1
         clear ho1 hb1)
      | (go_at_call 10; refine (P2.out _ (H.out.below HB1.out)).mono ?_; rintro r w2 ⟨A2, n2, c2, rfl, ho2, hb2⟩
         have R2 := hide ho2.rbb
         have R12 := hide (R1.out.below hb2)
         have HB12 := hide (Below.then_ HB1.out hb2)
         clear ho2 hb2)
      | (go_at_call 11; refine (same_any _ _ _ _ _ _ _ _ _ (by omega) R12.out R2.out).mono ?_; rintro r w3 ⟨rfl, hb3⟩
         rw [decide_eq_true (rfl : M = M)]
         have HB13 := hide (Below.then_ HB12.out hb3)
         clear hb3)
      | (go_at_call 12; refine (P3.out _ (H.out.below HB13.out)).mono ?_; rintro r w4 ⟨rfl, rfl⟩)
      | (go_at_call 13; refine (P4.out _ (H.out.below HB13.out)).mono ?_; rintro r w5 ⟨rfl, hb5⟩
         have HB15 := hide (Below.then_ HB13.out hb5)
         clear hb5)
      | (go_at_call 8; refine (awake_any _).mono ?_; rintro r w6 ⟨rfl, hb6⟩))
    go_ret
    exact ⟨rfl, Below.then_ HB15.out hb6⟩
  · have hl' : lightB L 40 = false := by simpa using hl
    rw [hl'] at LI
    clear hl hl' hf
    go_enter Try.func3, Try.ntmps3
    go_wp2_with (first
      | (go_at_call 7; refine (LI.out _ H.out).mono ?_; rintro r w1 ⟨rfl, rfl⟩)
      | (go_at_call 8; refine (awake_any _).mono ?_; rintro r w6 ⟨rfl, hb6⟩))
    go_ret
    exact ⟨rfl, hb6⟩
end Go.Proofs.Ytmdhckcoinhfpaa

/- The walks of Clash and of the document's Clash. -/
import Derived.Test.YtcmlegpfapomnaaDl
import Derived.Test.YtcmlegpfapomnaaSetM
namespace Go.Proofs.Ytcmlegpfapomnaa
open Go.RowKit Go.Instr
open Go.Op (bytesLess)

def strE (x : Sx) : Value := .string ⟨x.toArray⟩
theorem str_keys : KeyEnc Try.prog 9 Sx strE .string where
  under := Try.underlying9
  same x y := by
    show some ((⟨x.toArray⟩ : ByteArray) == ⟨y.toArray⟩) = some (decide (x = y))
    congr 1
    show (x.toArray == y.toArray) = decide (x = y)
    by_cases h : x = y <;> simp [h]
  bits x := by
    show ((⟨x.toArray⟩ : ByteArray) == ⟨x.toArray⟩) = true
    show (x.toArray == x.toArray) = true
    simp
  ok x e w := by
    rw [show (10000 : Nat) = 9999 + 1 from rfl]
    unfold checkKey
    simp [strE, run_underlying Try.underlying9]
theorem bool_zero (w : World) : (zeroValue 4).run Try.prog w = .ok (.bool false) w := by kernel_rfl
/-- The keys that both change. -/
def cls (D E : List Ch) : List Sx := (D.map Ch.k).filter fun x => (chg E x).isSome
theorem chg_mem (E : List Ch) (x : Sx) : (chg E x).isSome = decide (x ∈ E.map Ch.k) := by
  induction E with
  | nil => rfl
  | cons a l ih =>
    unfold chg
    by_cases h : a.k = x
    · simp [h]
    · have h2 : ¬ x = a.k := fun e => h e.symm
      simp only [List.map_cons, List.mem_cons, h2, false_or]
      rw [if_neg (by simpa using h), ih]
/-- The world in which a change lies in a block of its own. -/
def chW (w : World) (t : Ch) : World := w.alloc (.cells #[.string ⟨t.k.toArray⟩, .string ⟨t.was.toArray⟩, .string ⟨t.now.toArray⟩, .bool t.had, .bool t.has] 55)
theorem chW_block (w : World) (t : Ch) (b : Nat) (h : b < w.heap.size) : (chW w t).heap[b]? = w.heap[b]? := Below.heap_alloc _ _ _ h
theorem chW_size (w : World) (t : Ch) : (chW w t).heap.size = w.heap.size + 1 := by simp [chW]
theorem clash_any (A : Option Addr) (n c : Nat) (L : List Ch) (B : Option Addr) (m d : Nat) (M : List Ch) (w : World) (hn : n ≤ 500) (hm : m ≤ 500) (hA : Rch w A n L) (hB : Rch w B m M) :
    Calls Try.prog 16 #[.slice A n c, .slice B m d] w fun e w' => ∃ v, e = .returned v ∧ SS w' v (cls L M) ∧ Below w.heap.size w w' := by
  have H := hide hA
  have H2 := hide hB
  have HL := hide hA.len
  have HM := hide hB.len
  have M1 := hide (SetM.made (enc := strE) w)
  have HB0 := hide (Below.al (Below.refl w.heap.size w) (.map #[] 0))
  have mk := fun w => run_makeMap (P := Try.prog) 70 w
  obtain ⟨R, hR⟩ : ∃ R, cls L M = R := ⟨_, rfl⟩
  rw [hR]
  have HR := hide hR
  clear hA hB hR
  go_enter Try.func16, Try.ntmps16
  go_wp2_with fail
  go_loopw [14] (fun i wr => ∃ (k : Nat) (ks : List Sx), k ≤ m ∧ i = .int .i64 k ∧ SetM strE wr w.heap.size ks ∧ (∀ x, x ∈ ks ↔ x ∈ (M.take k).map Ch.k) ∧ Below w.heap.size w wr) (fun i _ => m - (intOf i).toNat)
  case atStart => exact ⟨0, [], Nat.zero_le _, rfl, M1.out, fun x => by simp, HB0.out⟩
  case round =>
    obtain ⟨k, ks, hk, rfl, hset, hks, hbr⟩ := hrel
    have ST := hide hset
    have KS := hide hks
    have HB := hide hbr
    clear hset hks
    by_cases hlt : k < m
    · obtain ⟨b, o, rfl, _, g0, g1, g2, g3, g4⟩ := (H2.out.below hbr).at_ hlt
      obtain ⟨T, hT⟩ : ∃ T, nthC M k = T := ⟨_, rfl⟩
      rw [hT] at g0 g1 g2 g3 g4
      have TK := hide (show (M.take (k + 1)).map Ch.k = (M.take k).map Ch.k ++ [T.k] by rw [take_succ_c M k (by rw [HM.out]; exact hlt), List.map_append, hT]; rfl)
      have ST2 := ST.out.of_block (chW_block wr T _ ST.out.lt)
      obtain ⟨ob, hp, hs⟩ := ST2.put str_keys (t := 70) Try.underlying70 T.k
      have SP := hide hs
      have HP2 := hide (setBl_grown (w := chW wr T) (b := w.heap.size) ob)
      have HB2 := hide ((show Below w.heap.size w (chW wr T) from Below.al HB.out _).grown HP2.out (by rw [chW_size]; have := HB.out.size; omega) (fun j hj => by injection hj with hj; omega))
      have kn : (k : Int) < (m : Int) := by omega
      have k0 : (0 : Int) ≤ (k : Int) := by omega
      clear hs ST2 hbr hT
      unfold chW strE at hp
      go_wp2_with fail
      go_roundw
      case rel =>
        refine ⟨k + 1, _, by omega, by go_num, SP.out, fun x => ?_, HB2.out⟩
        rw [TK.out, List.mem_append, List.mem_singleton, ← KS.out]
        split
        · rename_i hin
          exact ⟨.inl, fun h => h.elim id (fun e => e ▸ hin)⟩
        · rw [List.mem_append, List.mem_singleton]
      case measure => simp [intOf]; omega
    · obtain rfl : k = m := by omega
      have KS2 := hide (show ∀ x, decide (x ∈ ks) = (chg M x).isSome from fun x => by
        rw [chg_mem]
        refine decide_eq_decide.2 ?_
        rw [KS.out, List.take_of_length_le (Nat.le_of_eq HM.out)])
      have hszr := hbr.size
      clear hbr KS
      go_wp2_with fail
      go_loopw [8, 24] (fun s i ws => ∃ (j : Nat) (X : Option Addr) (d' : Nat) (O : List Sx), j ≤ n ∧ i = .int .i64 j ∧ s = .slice X O.length d' ∧ ws.ownsRow (w.heap.size + 1) 9 1 (.slice X O.length d') O.length (sts O) ∧ O.length ≤ j ∧ O ++ cls (L.drop j) M = R ∧ SetM strE ws w.heap.size ks ∧ Below w.heap.size w ws) (fun _ i _ => n - (intOf i).toNat)
      case atStart => exact ⟨0, none, 0, [], Nat.zero_le _, rfl, rfl, World.ownsRow_nil _ _ _ _, Nat.le_refl _, by have := HR.out; simpa using this, ST.out, HB.out⟩
      case round =>
        obtain ⟨j, X, d', O, hj, rfl, rfl, hown, hol, hR, hset, hbs⟩ := hrel
        have OW := hide hown
        have ST3 := hide hset
        have HBS := hide hbs
        have hszs := hset.lt
        clear hown hset
        by_cases hlt2 : j < n
        · obtain ⟨b, o, rfl, _, g0, g1, g2, g3, g4⟩ := (H.out.below hbs).at_ hlt2
          obtain ⟨T, hT⟩ : ∃ T, nthC L j = T := ⟨_, rfl⟩
          rw [hT] at g0 g1 g2 g3 g4
          obtain ⟨q, hq⟩ : ∃ q, decide (T.k ∈ ks) = q := ⟨_, rfl⟩
          have eR : O ++ (if q = true then [T.k] else []) ++ cls (L.drop (j + 1)) M = R := by
            rw [← hR, drop_c L j (by rw [HL.out]; exact hlt2), hT, cls, cls, List.map_cons, List.filter_cons, ← KS2.out, hq]
            cases q <;> simp
          have KR := hide eR
          have ST2 := ST3.out.of_block (chW_block wr T _ ST3.out.lt)
          have lk := ST2.look str_keys (t := 70) Try.underlying70 (bool_zero _) T.k
          have hq' : ∀ inst : Decidable (T.k ∈ ks), @decide _ inst = q := fun inst => by rw [← hq]; congr
          rw [hq'] at lk
          clear hq'
          have S2 := hide ST2
          have kn : (j : Int) < (n : Int) := by omega
          have k0 : (0 : Int) ≤ (j : Int) := by omega
          unfold chW strE at lk
          clear hbs hT hR eR ST2 hq
          cases q
          · go_wp2_with fail
            go_roundw
            case rel => exact ⟨j + 1, X, d', O, by omega, by go_num, rfl, OW.out.alloc _, by omega, by have := KR.out; simpa using this, S2.out, Below.al HBS.out _⟩
            case measure => simp [intOf]; omega
          · go_wp2_with (
              (with_reducible show wpList _ _ _ (⟨some 36, _, _, _, _, _⟩ :: _) _ _)
              go_loud (
              refine wpList_app rfl (.tmp 32) (.tmp 35) 36 rfl (w.heap.size + 1) 9 (.string ⟨#[]⟩) 1 16 Try.underlying36 info9 rfl (by omega) X d' O.length (sts O) rfl ((OW.out.alloc _).alloc _) _ 1 _ (sts [T.k]) rfl ((Vk.two_ wr 55 9 [.string ⟨T.k.toArray⟩, .string ⟨T.was.toArray⟩, .string ⟨T.now.toArray⟩, .bool T.had, .bool T.has] [.string ⟨T.k.toArray⟩]).rd 1 1 rfl) (sts_one _) (by unfold maxLen; omega) (by omega) (by simp; omega) ?_
              intro B' d2 w' hown hgr hz
              have HY := hide ((Below.al (Below.al HBS.out _) _).grown hgr (Below.al (Below.al HBS.out _) _).size (fun j hj => by have := (own_lt OW.out j hj).1; omega))
              have S3 := hide (S2.out.of_block ((hgr.block w.heap.size (by simp; omega) (fun e => by have := (own_lt OW.out w.heap.size e.symm).1; omega)).trans (Below.heap_alloc _ _ _ (by simp; omega))))
              rw [← sts_app] at hown
              have OY := hide hown
              clear hown hgr hz))
            go_roundw
            case rel => exact ⟨j + 1, B', d2, O ++ [T.k], by omega, by go_num, by simp, by simpa using OY.out, by simp; omega, by have := KR.out; simpa using this, S3.out, HY.out⟩
            case measure => simp [intOf]; omega
        · obtain rfl : j = n := by omega
          rw [List.drop_of_length_le (Nat.le_of_eq HL.out), show cls [] M = [] from rfl, List.append_nil] at hR
          have KR := hide hR
          clear hR
          go_wp2_with fail
          go_ret
          exact ⟨_, rfl, ⟨X, O.length, d', rfl, (own_capN OW.out).1, by rw [← KR.out]; exact Rs.of_own OW.out⟩, HBS.out⟩
end Go.Proofs.Ytcmlegpfapomnaa

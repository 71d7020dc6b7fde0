/- The law WalsecTorn of all its arguments, and what an argument of type []Fate hands over. -/
import Derived.Test.YtmdhckcoinhfpaaWo
import Derived.Test.YtmdhckcoinhfpaaOpens
import Derived.Test.YtmdhckcoinhfpaaOpenS
namespace Go.Proofs.Ytmdhckcoinhfpaa
open Go.RowKit Go.ChangeShapes Go.WideShapes Go.Deep

theorem open_fates {H : Type} {enc : TypeId × Value → H} {P : Program} {w : World} {base : Nat} {held : Bool} {t e : TypeId} {f g : Field} {A : Option Addr} {n c fuel : Nat} {x : DataW H × List MemPlace} (ht : P.underlying t = some (.slice e)) (he : P.underlying e = some (.struct #[f, g]))
    (hone : oneCellFields P #[f, g] = true) (hC : P.cellsOf e = 2) (hf : P.underlying f.type = some (.int .u8)) (hg : P.underlying g.type = some (.int .u8))
    (h : DataW.trod enc P w base (fun _ => true) held fuel t [.slice A n c] = some x) : ∃ F, Rd w A n 2 (by8 F) ∧ n ≤ c ∧ c ≤ maxLen := by
  obtain ⟨vs, hr, h1, h2, hv⟩ := open_rows ht he hone hC (m := 2) rfl (by omega) h
  have hl : vs.length = n * 2 := hr.1
  obtain ⟨F, hF⟩ := row_u8 (vs := vs) fun k hk => by
    have key : ∀ {u : Field}, P.underlying u.type = some (.int .u8) → (#[f, g] : Array Field)[k % 2]? = some u → ∃ a : UInt8, vs[k]? = some (.int .u8 (a.toNat : Int)) := fun {u} hu hj => by
      obtain ⟨v, y, N, e1, e2⟩ := hv k u (by omega) hj
      obtain ⟨z, e3, _, e4⟩ := DataW.trod_int hu e2
      have hb := bounds_u8 e4
      simp at e3
      subst e3
      refine ⟨UInt8.ofNat z.toNat, ?_⟩
      rw [e1]
      congr 2
      simp
      omega
    have : k % 2 = 0 ∨ k % 2 = 1 := by omega
    rcases this with e | e
    · exact key hf (by rw [e]; rfl)
    · exact key hg (by rw [e]; rfl)
  subst hF
  exact ⟨F, hr, h1, h2⟩
theorem torn_any (A : Option Addr) (n c : Nat) (L : List Tx) (B : Option Addr) (m d : Nat) (M : List Tx) (C : Option Addr) (nf cf : Nat) (F : List UInt8) (w : World) (hnc : n ≤ c) (hmd : m ≤ d) (h : Rs w A n L) (h' : Rs w B m M) (hF : Rd w C nf 2 (by8 F)) :
    Calls Try.prog 5 #[.slice A n c, .slice B m d, .slice C nf cf] w fun r w' => r = .returned (.bool true) ∧ Below w.heap.size w w' := by
  by_cases hq : ¬ (lightB L 30 = true ∧ lightB M 30 = true) ∨ 40 < nf
  · exact torn_out A B C n c m d nf cf L M w h h' hq
  · have hl : lightB L 30 = true ∧ lightB M 30 = true := Classical.byContradiction fun x => hq (.inl x)
    have hf : nf ≤ 40 := by omega
    by_cases he : packE 7 0 L = 0 ∧ packE 8 0 M = 0
    · exact torn_in A B C n c m d nf cf L M F w hnc hmd h h' hF hl.1 hl.2 hf he.1 he.2
    · exact torn_pack A B C n c m d nf cf L M w hnc hmd h h' hl.1 hl.2 hf he
end Go.Proofs.Ytmdhckcoinhfpaa

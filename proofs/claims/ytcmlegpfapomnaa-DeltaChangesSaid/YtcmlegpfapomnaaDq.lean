/- How long what is made may be; the contracts with their answers, for views. -/
import Derived.Test.YtcmlegpfapomnaaDp
namespace Go.Proofs.Ytcmlegpfapomnaa
open Go.RowKit Go.Instr

theorem flat_len {A B : Type} (f : A → List B) (h : ∀ x, (f x).length ≤ 1) : ∀ K : List A, (K.flatMap f).length ≤ K.length
  | [] => by simp
  | a :: K => by
    rw [List.flatMap_cons, List.length_append, List.length_cons]
    have := flat_len f h K
    have := h a
    omega
theorem btw_len (a b : List Pr) : (btw a b).length ≤ a.length + b.length := by
  rw [btw_rbtw, rbtw]
  split
  · have h1 := flat_len (rbt a b) (fun x => by unfold rbt; split <;> simp) (kys (a.map Pr.k) (b.map Pr.k))
    have h2 := kys_len (a.map Pr.k) (b.map Pr.k)
    rw [List.length_map, List.length_map] at h2
    omega
  · simp
theorem apl_len (l : List Pr) (D : List Ch) : (apl l D).1.length ≤ l.length + D.length := by
  rw [apl_rapl, rapl]
  split
  · simp
  · split
    · simp
    · split
      · simp
      · have h1 := flat_len (rap l D) (fun x => by unfold rap; split <;> simp) (kys (l.map Pr.k) (D.map Ch.k))
        have h2 := kys_len (l.map Pr.k) (D.map Ch.k)
        rw [List.length_map, List.length_map] at h2
        dsimp only
        omega
theorem thn_len (D E : List Ch) : (thn D E).1.length ≤ D.length + E.length := by
  rw [thn_rthn, rthn]
  split
  · simp
  · split
    · simp
    · split
      · simp
      · have h1 := flat_len (rth D E) (fun x => by unfold rth; split <;> (try split) <;> (try split) <;> simp) (kys (D.map Ch.k) (E.map Ch.k))
        have h2 := kys_len (D.map Ch.k) (E.map Ch.k)
        rw [List.length_map, List.length_map] at h2
        dsimp only
        omega
theorem cls_le (D E : List Ch) : (cls D E).length ≤ D.length := by
  unfold cls
  exact Nat.le_trans (List.length_filter_le _ _) (by simp)
end Go.Proofs.Ytcmlegpfapomnaa

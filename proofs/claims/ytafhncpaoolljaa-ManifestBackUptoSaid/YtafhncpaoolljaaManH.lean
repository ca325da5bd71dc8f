/- Manifest: rows of sums of the call's own. -/
import Derived.Test.YtafhncpaoolljaaManE
namespace Go.Proofs.Ytafhncpaoolljaa
set_option maxRecDepth 100000
set_option linter.unusedVariables false
open Go Go.RowKit

def smC (l : List SM) : List Value := l.flatMap fun x => [.string x.name, .string x.sum]
theorem smC_app (l m : List SM) : smC (l ++ m) = smC l ++ smC m := by unfold smC; rw [List.flatMap_append]
theorem smC_at : ∀ (l : List SM) (j : Nat) (x : SM), l[j]? = some x → (smC l)[2 * j]? = some (.string x.name) ∧ (smC l)[2 * j + 1]? = some (.string x.sum)
  | [], j, s, h => by simp at h
  | y :: l, 0, s, h => by simp at h; subst h; exact ⟨rfl, rfl⟩
  | y :: l, j + 1, s, h => by
    have := smC_at l j s (by simpa using h)
    rw [show 2 * (j + 1) = 2 * j + 1 + 1 by omega]
    exact this
theorem infoSm : (Try.prog.info? 33).map (fun i => (i.zero, i.size, i.bytes)) = some (some (.agg #[.string ⟨#[]⟩, .string ⟨#[]⟩]), 2, 32) := by kernel_rfl
theorem ownS_keep {w w' : World} {base size n : Nat} {e : TypeId} {v : Value} {xs : List Value} (h : w.ownsRow base e size v n xs) (hk : ∀ k, v.ownBlock = some k → k < w.heap.size → w'.heap[k]? = w.heap[k]?) : w'.ownsRow base e size v n xs := by
  refine ⟨h.1, ?_⟩
  rcases h.2 with h' | ⟨g, cap, cur, a, b, c, d⟩
  · exact .inl h'
  · exact .inr ⟨g, cap, cur, a, b, (hk g (by rw [a]; rfl) (Array.getElem?_eq_some_iff.1 c).1).trans c, d⟩
theorem ownS_below {w w' : World} {base size n : Nat} {e : TypeId} {v : Value} {xs : List Value} (h : w.ownsRow base e size v n xs) (hb : Below w.heap.size w w') : w'.ownsRow base e size v n xs := ownS_keep h fun k _ hl => hb.block k hl
theorem ownS_alloc {w : World} {base size n : Nat} {e : TypeId} {v : Value} {xs : List Value} (h : w.ownsRow base e size v n xs) (o : Obj) : (w.alloc o).ownsRow base e size v n xs := ownS_below h ((Below.refl _ _).alloc (Nat.le_refl _) o)
theorem two_cells (w : World) (u v : Value) (e : TypeId) : ∀ (j : Nat) (x : Value), ([u, v] : List Value)[j]? = some x → (w.alloc (.cells #[u, v] e)).cell? ((⟨w.heap.size, 0, none⟩ : Addr).add j) = some x := by
  intro j x h
  rw [show ((⟨w.heap.size, 0, none⟩ : Addr).add j) = ⟨w.heap.size, j, none⟩ from by unfold Addr.add; split <;> simp_all, cell_of_row _ _ _ _ _ _ (heap_alloc_new _ _)]
  simpa using h
theorem sums_of_own {w : World} {B : Nat} {v : Value} {l : List SM} (h : w.ownsRow B 33 2 v l.length (smC l)) (hl : l.length ≤ maxLen) (hs : ∀ x ∈ l, x.name.size ≤ maxLen ∧ x.sum.size ≤ maxLen) : SumsS w v l := by
  rcases h.2 with ⟨hv, hn⟩ | ⟨g, cap, cur, hv, hb, hg, hnc, hcm, hcs, htk⟩
  · exact ⟨none, 0, by rw [hv, hn], hl, hs, fun i x hx => by rw [List.eq_nil_of_length_eq_zero hn] at hx; simp at hx⟩
  · refine ⟨some ⟨g, 0, none⟩, cap, hv, hl, hs, fun i x hx => ⟨⟨g, 0, none⟩, rfl, ?_⟩⟩
    obtain ⟨c0, c1⟩ := smC_at l i x hx
    have hi := (List.getElem?_eq_some_iff.1 hx).1
    have ea : ∀ k, ((⟨g, 0, none⟩ : Addr).add k) = ⟨g, k, none⟩ := fun k => by unfold Addr.add; split <;> simp_all
    have at_ : ∀ k u, (smC l)[k]? = some u → w.cell? ⟨g, k, none⟩ = some u := fun k u hu => by
      rw [cell_of_row _ _ _ _ _ _ hg, ← Array.getElem?_toList]
      rw [← htk, List.getElem?_take] at hu
      split at hu
      · exact hu
      · cases hu
    refine ⟨by rw [ea, Nat.mul_comm]; exact at_ _ _ c0, ?_⟩
    rw [ea]
    show w.cell? ⟨g, i * 2 + 1, none⟩ = _
    rw [Nat.mul_comm]; exact at_ _ _ c1
end Go.Proofs.Ytafhncpaoolljaa

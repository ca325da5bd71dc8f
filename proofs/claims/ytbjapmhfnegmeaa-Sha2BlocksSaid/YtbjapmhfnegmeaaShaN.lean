/- SHA-2: the program's hashes, for both kinds, by the bytes that they have; One. -/
import Derived.Test.YtbjapmhfnegmeaaShaK
import Derived.Test.YtbjapmhfnegmeaaShaL
namespace Go.Proofs.Ytbjapmhfnegmeaa
set_option linter.unusedVariables false
open Go Go.RowKit Sha

def kd (k : Int) : Kd := if k = 0 then k256 else k512
theorem kd_B (k : Int) : 0 < (kd k).B := by unfold kd; split <;> decide
def Kind (k : Int) : Prop := k = 0 ∨ k = 1
/-- The hash at p has had the bytes l. -/
def HasB (k : Int) (w : World) (p : Nat) (l : List UInt8) : Prop := (k = 0 ∧ St32 w p (k256.at l)) ∨ (k = 1 ∧ St64 w p (k512.at l))
theorem HasB.lt {k : Int} {w : World} {p : Nat} {l : List UInt8} (h : HasB k w p l) : p < w.heap.size := by
  rcases h with ⟨_, h⟩ | ⟨_, h⟩
  · exact h.lt
  · exact h.lt
theorem HasB.keep {k : Int} {w w' : World} {p : Nat} {l : List UInt8} (h : HasB k w p l) (hk : w'.heap[p]? = w.heap[p]?) : HasB k w' p l := by
  rcases h with ⟨a, h⟩ | ⟨a, h⟩
  · exact .inl ⟨a, h.keep hk⟩
  · exact .inr ⟨a, h.keep hk⟩
theorem HasB.below {k : Int} {w w' : World} {p : Nat} {l : List UInt8} (h : HasB k w p l) (hb : Below w.heap.size w w') : HasB k w' p l := h.keep (hb.block p h.lt)
theorem HasB.upd {k : Int} {w w' : World} {p q : Nat} {l : List UInt8} (h : HasB k w p l) (hb : Upd [q] w w') (hne : p ≠ q) : HasB k w' p l := h.keep (hb.block p h.lt (by simpa using hne))
/-- The sum of bytes. -/
def sumS (k : Int) (l : List UInt8) : ByteArray := ⟨((kd k).sum l).toArray⟩
theorem sumS_size (k : Int) (l : List UInt8) (hk : Kind k) : ((sumS k l).size : Int) = 32 + 32 * k := by
  have e : (sumS k l).size = ((kd k).sum l).length := by rw [← size_list]; rfl
  have h : ∀ (n : Nat) (v : V8), (v.list.flatMap fun x => bytesOf x n).length = 8 * n := by
    intro n v
    simp only [V8.list, List.flatMap_cons, List.flatMap_nil, List.length_append, bytesOf_len, List.length_nil]
    omega
  rw [e]
  unfold Kd.sum
  rw [h]
  rcases hk with rfl | rfl
  · decide
  · decide
theorem newB_any (k : Int) (hk : Kind k) (w : World) : Calls Try.prog 10 #[.int .i64 k] w fun e w' => ∃ p, e = .returned (.tuple #[.pointer (some ⟨p, 0, none⟩), .int .i64 0]) ∧ w.heap.size ≤ p ∧ HasB k w' p [] ∧ Below w.heap.size w w' := by
  rcases hk with rfl | rfl
  · exact (new32_any w).mono fun e w' ⟨p, he, hp, hs, hb⟩ => ⟨p, he, hp, .inl ⟨rfl, by rw [Kd.at_nil]; exact hs⟩, hb⟩
  · exact (new64_any w).mono fun e w' ⟨p, he, hp, hs, hb⟩ => ⟨p, he, hp, .inr ⟨rfl, by rw [Kd.at_nil]; exact hs⟩, hb⟩
theorem cloneB_any (k : Int) (p : Nat) (l : List UInt8) (w : World) (h : HasB k w p l) : Calls Try.prog 11 #[.pointer (some ⟨p, 0, none⟩)] w fun e w' => ∃ q, e = .returned (.pointer (some ⟨q, 0, none⟩)) ∧ w.heap.size ≤ q ∧ HasB k w' q l ∧ Below w.heap.size w w' := by
  rcases h with ⟨a, h⟩ | ⟨a, h⟩
  · exact (clone32_any p _ w h).mono fun e w' ⟨he, hs, hb⟩ => ⟨_, he, Nat.le_refl _, .inl ⟨a, hs⟩, hb⟩
  · exact (clone64_any p _ w h).mono fun e w' ⟨he, hs, hb⟩ => ⟨_, he, Nat.le_refl _, .inr ⟨a, hs⟩, hb⟩
theorem writeB_any (k : Int) (p : Nat) (l : List UInt8) (s : ByteArray) (w : World) (h : HasB k w p l) (hs : s.size ≤ 500000) (hl : l.length ≤ 500000) :
    Calls Try.prog 12 #[.pointer (some ⟨p, 0, none⟩), .string s] w fun e w' => e = .returned (.tuple #[]) ∧ HasB k w' p (l ++ s.data.toList) ∧ Upd [p] w w' := by
  rcases h with ⟨a, h⟩ | ⟨a, h⟩
  · exact (write32_any p _ s w h hs hl).mono fun e w' ⟨he, hs, hb⟩ => ⟨he, .inl ⟨a, by rw [← Kd.at_write (by decide)]; exact hs⟩, hb⟩
  · exact (write64_any p _ s w h hs hl).mono fun e w' ⟨he, hs, hb⟩ => ⟨he, .inr ⟨a, by rw [← Kd.at_write (by decide)]; exact hs⟩, hb⟩
theorem sumB_any (k : Int) (p : Nat) (l : List UInt8) (w : World) (h : HasB k w p l) (hl : l.length ≤ 900000) :
    Calls Try.prog 13 #[.pointer (some ⟨p, 0, none⟩)] w fun e w' => e = .returned (.string (sumS k l)) ∧ Below w.heap.size w w' := by
  rcases h with ⟨rfl, h⟩ | ⟨rfl, h⟩
  · exact (sum32_any p _ w h hl).mono fun e w' ⟨he, hb⟩ => ⟨by rw [he, Kd.ask_at (by decide)]; rfl, hb⟩
  · exact (sum64_any p _ w h hl).mono fun e w' ⟨he, hb⟩ => ⟨by rw [he, Kd.ask_at (by decide)]; rfl, hb⟩
theorem sizeB_any (k : Int) (p : Nat) (l : List UInt8) (w : World) (h : HasB k w p l) :
    Calls Try.prog 14 #[.pointer (some ⟨p, 0, none⟩)] w fun e w' => e = .returned (.int .i64 l.length) ∧ w = w' := by
  rcases h with ⟨a, _, _, h, _⟩ | ⟨a, _, _, h, _⟩
  · exact size32_any _ _ _ _ _ _ h
  · exact size64_any _ _ _ _ _ _ h
set_option maxHeartbeats 1000000 in
theorem oneB_any (k : Int) (hk : Kind k) (s : ByteArray) (hs : s.size ≤ 500000) (w : World) :
    Calls Try.prog 7 #[.int .i64 k, .string s] w fun e w' => e = .returned (.tuple #[.string (sumS k s.data.toList), .int .i64 0]) ∧ Below w.heap.size w w' := by
  have HN := Box.mk (newB_any k hk)
  have hl := size_list s
  have HL := Box.mk hl
  clear hl
  go_enter Try.func7, Try.ntmps7
  go_wp2_with fail
  refine (HN.out _).mono ?_
  rintro e w1 ⟨p, rfl, hp, hs1, hb1⟩
  have HS1 := Box.mk hs1; have HB1 := Box.mk hb1
  clear hs1 hb1 HN
  go_wp2_with fail
  refine (writeB_any k p [] s _ HS1.out hs (by simp)).mono ?_
  rintro e w2 ⟨rfl, hs2, hu2⟩
  rw [List.nil_append] at hs2
  have HS2 := Box.mk hs2; have HU2 := Box.mk hu2
  clear hs2 hu2
  go_wp2_with fail
  refine (sumB_any k p _ _ HS2.out (by have := HL.out; omega)).mono ?_
  rintro e w3 ⟨rfl, hb3⟩
  have HB3 := Box.mk hb3
  clear hb3
  go_wp2
  go_ret2
  have h2 := Upd.below HB1.out HU2.out (by simp; omega) HB1.out.size
  exact ⟨rfl, h2.trans (HB3.out.mono h2.size)⟩
theorem oneB_no (k : Int) (hk : ¬ Kind k) (s : ByteArray) (w : World) :
    Calls Try.prog 7 #[.int .i64 k, .string s] w fun e w' => e = .returned (.tuple #[.string ⟨#[]⟩, .int .i64 30]) ∧ w = w' := by
  have HN := Box.mk (fun w => new_no k w (fun e => hk (.inl e)) (fun e => hk (.inr e)))
  clear hk
  go_enter Try.func7, Try.ntmps7
  go_wp2_with fail
  refine (HN.out _).mono ?_
  rintro e w1 ⟨rfl, rfl⟩
  go_wp2
  go_ret2
  exact ⟨rfl, rfl⟩
end Go.Proofs.Ytbjapmhfnegmeaa

/- The flash: a torn step: plain laws. -/
import Derived.Test.YtaeomiedmjedgaaFlashJ
import Derived.Laws.BitsAllLaws
namespace Go.Proofs.Ytaeomiedmjedgaa
set_option linter.unusedVariables false
open Go Go.RowKit

theorem bit1 (o c m : UInt8) : (o &&& (c ||| m)) &&& ~~~o = 0 := by
  apply UInt8.toBitVec_inj.1; apply BitVec.eq_of_getElem_eq; intro i hi
  simp only [UInt8.toBitVec_and, UInt8.toBitVec_or, UInt8.toBitVec_not, BitVec.getElem_and, BitVec.getElem_or, BitVec.getElem_not]
  cases o.toBitVec[i] <;> simp
theorem bit2 (o c m : UInt8) : (o &&& c) &&& ~~~(o &&& (c ||| m)) = 0 := by
  apply UInt8.toBitVec_inj.1; apply BitVec.eq_of_getElem_eq; intro i hi
  simp only [UInt8.toBitVec_and, UInt8.toBitVec_or, UInt8.toBitVec_not, BitVec.getElem_and, BitVec.getElem_or, BitVec.getElem_not]
  cases o.toBitVec[i] <;> cases c.toBitVec[i] <;> simp
theorem bit3 (o m : UInt8) : o &&& ~~~(o ||| m) = 0 := by
  apply UInt8.toBitVec_inj.1; apply BitVec.eq_of_getElem_eq; intro i hi
  simp only [UInt8.toBitVec_and, UInt8.toBitVec_or, UInt8.toBitVec_not, BitVec.getElem_and, BitVec.getElem_or, BitVec.getElem_not]
  cases o.toBitVec[i] <;> simp
theorem bit4 (x : UInt8) : x &&& ~~~255 = 0 := by
  have : (~~~255 : UInt8) = 0 := by decide
  rw [this]; simp
theorem bit5 (o c : UInt8) : (o &&& c) &&& ~~~o = 0 := by
  apply UInt8.toBitVec_inj.1; apply BitVec.eq_of_getElem_eq; intro i hi
  simp only [UInt8.toBitVec_and, UInt8.toBitVec_or, UInt8.toBitVec_not, BitVec.getElem_and, BitVec.getElem_or, BitVec.getElem_not]
  cases o.toBitVec[i] <;> simp
theorem bit6 (o : UInt8) : o &&& ~~~o = 0 := by
  apply UInt8.toBitVec_inj.1; apply BitVec.eq_of_getElem_eq; intro i hi
  simp only [UInt8.toBitVec_and, UInt8.toBitVec_not, BitVec.getElem_and, BitVec.getElem_not]
  cases o.toBitVec[i] <;> simp
theorem andNot_u8 (a b : UInt8) : bits .andNot .u8 (a.toNat : Int) (b.toNat : Int) = ((a &&& ~~~b).toNat : Int) := by
  rw [u8_andNot_nat _ _ a.toNat_lt b.toNat_lt, UInt8.toNat_and]
  congr 2
  have : (~~~b).toNat = 255 - b.toNat := by
    rw [← UInt8.toNat_toBitVec, UInt8.toBitVec_not, BitVec.toNat_not]; rfl
  rw [this]

/-- Behind a torn step: each byte as it was, or as it would be, but what lies between, all of one byte (of one page). -/
def Tore (er : Bool) (was now all : List UInt8) : Prop :=
  ∃ K : Nat, ∀ (i : Nat) (o n a : UInt8), was[i]? = some o → now[i]? = some n → all[i]? = some a →
    n = o ∨ n = a ∨ ((if er then i / 64 else i) = K ∧ (if er then o &&& ~~~n = 0 ∧ n &&& ~~~a = 0 else n &&& ~~~o = 0 ∧ a &&& ~~~n = 0))

theorem tore_prog (b : List UInt8) (A : Nat) (l : List UInt8) (keep k' : Int) (mask m' : UInt8) :
    Tore false b (progBytes b A l true keep mask) (progBytes b A l false k' m') := by
  refine ⟨A + keep.toNat, fun i o n a ho hn ha => ?_⟩
  rw [progBytes_at, ho, Option.map_some] at hn ha
  cases hn; cases ha
  by_cases hA : A ≤ i
  · rw [if_pos hA, if_pos hA]
    cases hl : l[i - A]? with
    | none => left; rfl
    | some c =>
      simp only [progByte, true_or, if_true]
      by_cases h1 : ((i - A : Nat) : Int) < keep
      · right; left; rw [if_pos (Or.inr h1)]
      · rw [if_neg (by simp; omega)]
        by_cases h2 : ((i - A : Nat) : Int) = keep
        · rw [if_pos h2]
          right; right
          refine ⟨by simp; omega, ?_⟩
          rw [if_neg (by decide)]
          exact ⟨bit1 o c mask, bit2 o c mask⟩
        · left; rw [if_neg h2]
  · left; rw [if_neg hA]
theorem tore_erase (b : List UInt8) (K : Nat) (keep k' : Int) (mask m' : UInt8) :
    Tore true b (eraseUpto b (512 * K) 512 true keep mask) (eraseUpto b (512 * K) 512 false k' m') := by
  refine ⟨8 * K + keep.toNat, fun i o n a ho hn ha => ?_⟩
  rw [eraseUpto_at, ho, Option.map_some] at hn ha
  cases hn; cases ha
  by_cases hA : 512 * K ≤ i ∧ i < 512 * K + 512
  · rw [if_pos hA, if_pos hA]
    simp only [eraseByte, true_or, if_true]
    by_cases h1 : (((i - 512 * K) / 64 : Nat) : Int) < keep
    · right; left; rw [if_pos (Or.inr h1)]
    · rw [if_neg (by simp; omega)]
      by_cases h2 : (((i - 512 * K) / 64 : Nat) : Int) = keep
      · rw [if_pos h2]
        right; right
        exact ⟨by show i / 64 = _; omega, bit3 o mask, bit4 _⟩
      · left; rw [if_neg h2]
  · left; rw [if_neg hA]

/-- The next step is torn. -/
def FS.armed1 (s : FS) (keep : Int) (mask : UInt8) : FS := { s with armed := 1, keep := max 0 keep, mask := mask }
theorem FS.arm_one {s : FS} (h : s.Still) (keep : Int) (mask : UInt8) : s.arm 1 keep mask = (s.armed1 keep mask, 0) := by
  unfold FS.arm
  rw [if_neg (by rw [h.dead]; decide), if_neg (by decide)]; rfl

/-- What a call does to a flash of which the next step is torn (q), and to one of which none is (r). -/
structure TornCall (er : Bool) (s0 : FS) (q r : FS × Int) : Prop where
  none : (r.2 ≠ 0 ∨ r.1.steps = 0) → q.2 = r.2 ∧ q.1.dead = false ∧ q.1.b = s0.b
  some : r.2 = 0 → r.1.steps ≠ 0 → q.2 = 2 ∧ q.1.dead = true ∧ Tore er s0.b q.1.b r.1.b
  l1 : q.1.b.length = s0.b.length
  l2 : r.1.b.length = s0.b.length

theorem torn_prog {s : FS} (h : s.Still) (hs : s.steps = 0) (keep : Int) (mask : UInt8) (at_ : Int) (l : List UInt8) :
    TornCall false s ((s.armed1 keep mask).program at_ l) (s.program at_ l) := by
  have hd : (s.armed1 keep mask).dead = false := h.dead
  have hb : (s.armed1 keep mask).b = s.b := rfl
  by_cases c1 : onB s.b.length at_ l.length = false
  · have e1 : s.program at_ l = (s, 111) := by unfold FS.program; rw [if_neg (by rw [h.dead]; decide), if_pos c1]
    have e2 : (s.armed1 keep mask).program at_ l = (s.armed1 keep mask, 111) := by unfold FS.program; rw [if_neg (by rw [hd]; decide), hb, if_pos c1]
    rw [e1, e2]
    exact ⟨fun _ => ⟨rfl, h.dead, rfl⟩, fun h0 => absurd (show (111:Int) = 0 from h0) (by decide), rfl, rfl⟩
  · by_cases c2 : l = []
    · have e1 : s.program at_ l = (s, 0) := by unfold FS.program; rw [if_neg (by rw [h.dead]; decide), if_neg c1, if_pos c2]
      have e2 : (s.armed1 keep mask).program at_ l = (s.armed1 keep mask, 0) := by unfold FS.program; rw [if_neg (by rw [hd]; decide), hb, if_neg c1, if_pos c2]
      rw [e1, e2]
      exact ⟨fun _ => ⟨rfl, h.dead, rfl⟩, fun _ h0 => absurd hs h0, rfl, rfl⟩
    · by_cases c3 : at_ / 64 ≠ (at_ + l.length - 1) / 64
      · have e1 : s.program at_ l = (s, 112) := by unfold FS.program; rw [if_neg (by rw [h.dead]; decide), if_neg c1, if_neg c2, if_pos c3]
        have e2 : (s.armed1 keep mask).program at_ l = (s.armed1 keep mask, 112) := by unfold FS.program; rw [if_neg (by rw [hd]; decide), hb, if_neg c1, if_neg c2, if_pos c3]
        rw [e1, e2]
        exact ⟨fun _ => ⟨rfl, h.dead, rfl⟩, fun h0 => absurd (show (112:Int) = 0 from h0) (by decide), rfl, rfl⟩
      · have k := h.step
        have hg : (s.armed1 keep mask).goes = true := rfl
        have ht : toldI false = 0 := by unfold toldI; rfl
        have ht2 : toldI true = 2 := by unfold toldI; rfl
        have hst : s.step.steps = 1 := by simp only [FS.step, hs]; decide +kernel
        have e1 : s.program at_ l = ({ s.step with b := progBytes s.b at_.toNat l false s.keep s.mask }, 0) := by
          unfold FS.program; rw [if_neg (by rw [h.dead]; decide), if_neg c1, if_neg c2, if_neg c3, k.2, ht]
        have e2 : (s.armed1 keep mask).program at_ l = ({ (s.armed1 keep mask).step with b := progBytes s.b at_.toNat l true (max 0 keep) mask }, 2) := by
          unfold FS.program; rw [if_neg (by rw [hd]; decide), hb, if_neg c1, if_neg c2, if_neg c3, hg, ht2]; rfl
        rw [e1, e2]
        refine ⟨fun h0 => ?_, fun _ _ => ⟨rfl, rfl, ?_⟩, ?_, ?_⟩
        · exfalso
          rcases h0 with h0 | h0
          · exact h0 rfl
          · have h0 : s.step.steps = 0 := h0
            rw [hst] at h0; cases h0
        · exact tore_prog _ _ _ _ _ _ _
        · exact progBytes_length _ _ _ _ _ _
        · exact progBytes_length _ _ _ _ _ _
theorem torn_erase {s : FS} (h : s.Still) (hs : s.steps = 0) (keep : Int) (mask : UInt8) (at_ : Int) :
    TornCall true s ((s.armed1 keep mask).erase at_) (s.erase at_) := by
  have hd : (s.armed1 keep mask).dead = false := h.dead
  have hb : (s.armed1 keep mask).b = s.b := rfl
  have hn : (s.armed1 keep mask).n = s.n := rfl
  by_cases c1 : blkB s.n.length at_ = false
  · have e1 : s.erase at_ = (s, 111) := by unfold FS.erase; rw [if_neg (by rw [h.dead]; decide), if_pos c1]
    have e2 : (s.armed1 keep mask).erase at_ = (s.armed1 keep mask, 111) := by unfold FS.erase; rw [if_neg (by rw [hd]; decide), hn, if_pos c1]
    rw [e1, e2]
    exact ⟨fun _ => ⟨rfl, h.dead, rfl⟩, fun h0 => absurd (show (111:Int) = 0 from h0) (by decide), rfl, rfl⟩
  · have k := h.step
    have hg : (s.armed1 keep mask).goes = true := rfl
    have ht : toldI false = 0 := by unfold toldI; rfl
    have ht2 : toldI true = 2 := by unfold toldI; rfl
    have hst : s.step.steps = 1 := by simp only [FS.step, hs]; decide +kernel
    have e1 : s.erase at_ = ({ s.step with n := s.bump at_.toNat, b := eraseUpto s.b (512 * at_.toNat) 512 false s.keep s.mask }, 0) := by
      unfold FS.erase; rw [if_neg (by rw [h.dead]; decide), if_neg c1, k.2, ht]
    have e2 : (s.armed1 keep mask).erase at_ = ({ (s.armed1 keep mask).step with n := (s.armed1 keep mask).bump at_.toNat, b := eraseUpto s.b (512 * at_.toNat) 512 true (max 0 keep) mask }, 2) := by
      unfold FS.erase; rw [if_neg (by rw [hd]; decide), hn, if_neg c1, hg, ht2]; rfl
    rw [e1, e2]
    refine ⟨fun h0 => ?_, fun _ _ => ⟨rfl, rfl, ?_⟩, ?_, ?_⟩
    · exfalso
      rcases h0 with h0 | h0
      · exact h0 rfl
      · have h0 : s.step.steps = 0 := h0
        rw [hst] at h0; cases h0
    · exact tore_erase _ _ _ _ _ _
    · exact eraseUpto_length _ _ _ _ _ _
    · exact eraseUpto_length _ _ _ _ _ _
/-- The same of strings. -/
structure Tear3 (er : Bool) (K : Nat) (was now all : ByteArray) : Prop where
  z1 : now.size = was.size
  z2 : all.size = was.size
  at_ : ∀ (i : Nat) (h1 : i < was.size) (h2 : i < now.size) (h3 : i < all.size), now[i] = was[i] ∨ now[i] = all[i] ∨
    ((if er then i / 64 else i) = K ∧ (if er then was[i] &&& ~~~now[i] = 0 ∧ now[i] &&& ~~~all[i] = 0 else now[i] &&& ~~~was[i] = 0 ∧ all[i] &&& ~~~now[i] = 0))
theorem tear3 {er : Bool} {a b c : List UInt8} (h : Tore er a b c) (h1 : b.length = a.length) (h2 : c.length = a.length) : ∃ K, Tear3 er K ⟨a.toArray⟩ ⟨b.toArray⟩ ⟨c.toArray⟩ := by
  obtain ⟨K, h⟩ := h
  refine ⟨K, by show b.toArray.size = a.toArray.size; simpa using h1, by show c.toArray.size = a.toArray.size; simpa using h2, fun i g1 g2 g3 => ?_⟩
  have g1 : i < a.length := by have : i < a.toArray.size := g1; simpa using this
  have g2 : i < b.length := by have : i < b.toArray.size := g2; simpa using this
  have g3 : i < c.length := by have : i < c.toArray.size := g3; simpa using this
  exact h i a[i] b[i] c[i] (List.getElem?_eq_getElem _) (List.getElem?_eq_getElem _) (List.getElem?_eq_getElem _)
end Go.Proofs.Ytaeomiedmjedgaa

/- The logs' laws: a log of the call's own; Same, all. Regions that draw their order and hold operations under guards: as the mixed walk, where each guard is decided on the way. Nothing of the program. The logs' laws: holds. Images in slots: Write, End. SHA-2 on plain numbers: words, blocks, sums; a sum that goes on. SHA-2: a word turned; mixed. -/
import Derived.Test.YtjednaendedpdaaGreatM14
import Derived.Test.YtjednaendedpdaaGreatM10
import Derived.Test.YtjednaendedpdaaGreatM11
import Derived.Test.YtjednaendedpdaaGreatM05
import Derived.Test.YtjednaendedpdaaGreatM07
import Derived.Test.YtjednaendedpdaaGreatRows
import Derived.Test.YtjednaendedpdaaGreatM01
import Derived.Laws.BitsAllLaws
namespace Go.Proofs.YtjednaendedpdaaGreat
set_option maxRecDepth 100000
set_option linter.unusedVariables false
open Go Go.RowKit

/-- A log of the call's own. -/
structure OwL (w wr : World) (B g q p bb cb : Nat) (v : Value) (s : FS) (l : LS) : Prop where
  lg : LgS wr (1 : Nat) (B : Nat) g q p bb cb v s l
  lo : ∀ k, k ∈ [g, q, p, bb, cb] → w.heap.size ≤ k
  lv : ∀ k, v.ownBlock = some k → w.heap.size ≤ k
  be : Below w.heap.size w wr
theorem OwL.same {w wr w1 : World} {B g q p bb cb : Nat} {v : Value} {s : FS} {l : LS} (h : OwL w wr B g q p bb cb v s l) (hb : Below wr.heap.size wr w1) : OwL w w1 B g q p bb cb v s l :=
  ⟨h.lg.keep (Upd.of_below hb), h.lo, h.lv, h.be.trans (hb.mono h.be.size)⟩
theorem OwL.same0 {w wr w1 : World} {B g q p bb cb : Nat} {v : Value} {s : FS} {l : LS} (h : OwL w wr B g q p bb cb v s l) (hu : Upd [] wr w1) : OwL w w1 B g q p bb cb v s l := h.same (Upd.below9 hu)
theorem OwL.step {w wr w1 : World} {B g q p bb cb : Nat} {v v' : Value} {s s' : FS} {l l' : LS} (h : OwL w wr B g q p bb cb v s l) (hl : LgS w1 (1 : Nat) (B : Nat) g q p bb cb v' s' l') (hv : ∀ j, v'.ownBlock = some j → v.ownBlock = some j ∨ wr.heap.size ≤ j) (hu : Upd (fp g v p bb cb) wr w1) : OwL w w1 B g q p bb cb v' s' l' :=
  ⟨hl, h.lo, fun k hk => by
    rcases hv k hk with h' | h'
    · exact h.lv k h'
    · exact Nat.le_trans h.be.size h', Upd.below h.be hu (fun i hi => by
    unfold fp at hi
    simp only [List.mem_cons, Option.mem_toList] at hi
    rcases hi with rfl | rfl | rfl | rfl | hi
    · exact h.lo _ (by simp)
    · exact h.lo _ (by simp)
    · exact h.lo _ (by simp)
    · exact h.lo _ (by simp)
    · exact h.lv i hi) h.be.size⟩
section
variable {w wr : World} {B g q p bb cb : Nat} {v : Value} {s : FS} {l : LS}
theorem OwL.append (h : OwL w wr B g q p bb cb v s l) (hi : LInv 1 B s l) (r : ByteArray) (spare : Int) (hr : r.size ≤ 9223372036854775807) (hn : l.newest.2 + 1 < 281474976710656) :
    Calls Tryz.prog 16 #[.pointer (some ⟨g, 0, none⟩), .string r, .int .i64 spare] wr fun e w' => e = .returned (.int .i64 (s.lappend 1 B l r.data.toList spare).2.2) ∧ (∃ v', OwL w w' B g q p bb cb v' (s.lappend 1 B l r.data.toList spare).1 (s.lappend 1 B l r.data.toList spare).2.1) ∧ Upd (fp g v p bb cb) wr w' :=
  (lappend_any g q p bb cb 1 B v s l r spare wr h.lg hi.by_.lok hr hn).mono fun e w' ⟨he, ⟨v', h1, h2⟩, hu⟩ => ⟨he, ⟨v', h.step h1 h2 hu⟩, hu⟩
theorem OwL.room (h : OwL w wr B g q p bb cb v s l) (hi : LInv 1 B s l) : Calls Tryz.prog 37 #[.pointer (some ⟨g, 0, none⟩)] wr fun e w' => e = .returned (.int .i64 (s.lroom 1 l : Nat)) ∧ OwL w w' B g q p bb cb v s l ∧ Below wr.heap.size wr w' :=
  (lroom_any g q p bb cb 1 B v s l wr h.lg hi.by_.lok).mono fun e w' ⟨he, _, hu⟩ => ⟨he, h.same0 hu, Upd.below9 hu⟩
theorem OwL.free (h : OwL w wr B g q p bb cb v s l) (hi : LInv 1 B s l) : Calls Tryz.prog 36 #[.pointer (some ⟨g, 0, none⟩)] wr fun e w' => e = .returned (.int .i64 (B - l.segs.length : Nat)) ∧ OwL w w' B g q p bb cb v s l ∧ Below wr.heap.size wr w' :=
  (lfree_any g q p bb cb (1 : Nat) B v s l wr h.lg hi.by_.lok.few).mono fun e w' ⟨he, _, hu⟩ => ⟨he, h.same0 hu, Upd.below9 hu⟩
theorem OwL.segs (h : OwL w wr B g q p bb cb v s l) (hi : LInv 1 B s l) (hB : B ≤ 12) : Calls Tryz.prog 35 #[.pointer (some ⟨g, 0, none⟩)] wr fun e w' => ∃ gs cap, e = .returned (.slice (some ⟨gs, 0, none⟩) l.segs.length cap) ∧ w'.ownsRow wr.heap.size 3 1 (.slice (some ⟨gs, 0, none⟩) l.segs.length cap) l.segs.length (segN l.segs) ∧ OwL w w' B g q p bb cb v s l ∧ Below wr.heap.size wr w' :=
  (lsegs_any g q p bb cb (1 : Nat) (B : Nat) v s l wr h.lg hi.by_.lok.ne (by have := hi.by_.lok.few; omega)).mono fun e w' ⟨v', he, ho, _, hb⟩ => by
    obtain ⟨gs, cap, rfl⟩ := own_formI ho (List.length_pos_iff.2 hi.by_.lok.ne)
    exact ⟨gs, cap, he, ho, h.same hb, hb⟩
theorem OwL.records (h : OwL w wr B g q p bb cb v s l) (hi : LInv 1 B s l) (x : Nat × Nat) (hx : x ∈ l.segs) : Calls Tryz.prog 38 #[.pointer (some ⟨g, 0, none⟩), .int .i64 (x.2 : Nat)] wr fun e w' => (∃ v', e = .returned (.tuple #[v', .int .i64 0]) ∧ w'.ownsRow wr.heap.size 9 1 v' (recN (s.blk 1 x.1) 7 1).length ((recN (s.blk 1 x.1) 7 1).map fun r => .string ⟨r.toArray⟩)) ∧ OwL w w' B g q p bb cb v s l ∧ Below wr.heap.size wr w' := by
  have := lrecords_any g q p bb cb 1 B v s l (x.2 : Nat) wr h.lg hi.by_.lok
  rw [hi.recs x hx] at this
  exact this.mono fun e w' ⟨he, _, hb⟩ => ⟨he, h.same hb, hb⟩
theorem OwL.oldest (h : OwL w wr B g q p bb cb v s l) (hi : LInv 1 B s l) : Calls Tryz.prog 39 #[.pointer (some ⟨g, 0, none⟩)] wr fun e w' => e = .returned (.int .i64 (s.ldrop 1 B l 0).2.2) ∧ (∃ v', OwL w w' B g q p bb cb v' (s.ldrop 1 B l 0).1 (s.ldrop 1 B l 0).2.1) ∧ Upd (fp g v p bb cb) wr w' :=
  (loldest_any g q p bb cb 1 B v s l wr h.lg hi.by_.lok).mono fun e w' ⟨he, ⟨v', h1, h2⟩, hu⟩ => ⟨he, ⟨v', h.step h1 h2 hu⟩, hu⟩
theorem OwL.dnewest (h : OwL w wr B g q p bb cb v s l) (hi : LInv 1 B s l) : Calls Tryz.prog 56 #[.pointer (some ⟨g, 0, none⟩)] wr fun e w' => e = .returned (.int .i64 (s.ldrop 1 B l (l.segs.length - 1)).2.2) ∧ (∃ v', OwL w w' B g q p bb cb v' (s.ldrop 1 B l (l.segs.length - 1)).1 (s.ldrop 1 B l (l.segs.length - 1)).2.1) ∧ Upd (fp g v p bb cb) wr w' :=
  (lnewdrop_any g q p bb cb 1 B v s l wr h.lg hi.by_.lok).mono fun e w' ⟨he, ⟨v', h1, h2⟩, hu⟩ => ⟨he, ⟨v', h.step h1 h2 hu⟩, hu⟩
end
/-- Integers in a row. -/
def Ints (w : World) (v : Value) (l : List Int) : Prop := ∃ a cap, v = .slice a l.length cap ∧ ∀ j x, l[j]? = some x → ∃ b, a = some b ∧ w.cell? (b.add j) = some (.int .i64 x)
set_option maxHeartbeats 1000000 in
theorem same8_any (ga ca gb cb : Nat) (x y : List Int) (hx : x.length ≤ 100000) (hy : y.length ≤ 100000) (w : World) (h1 : ∀ j u, x[j]? = some u → w.cell? ⟨ga, j, none⟩ = some (.int .i64 u)) (h2 : ∀ j u, y[j]? = some u → w.cell? ⟨gb, j, none⟩ = some (.int .i64 u)) :
    Calls Tryz.prog 34 #[.slice (some ⟨ga, 0, none⟩) x.length ca, .slice (some ⟨gb, 0, none⟩) y.length cb] w fun e w' => e = .returned (.bool (decide (x = y))) ∧ ∃ n, w' = w.drewN n := by
  by_cases hl : x.length = y.length
  · have hlI : ((x.length : Int) != (y.length : Int)) = false := by rw [bne_eq_false_iff_eq]; omega
    have HL := Box.mk hl
    clear hl
    go_enter Tryz.func34, Tryz.ntmps34
    go_wp2_with fail
    go_loopw [5] (fun i wr => ∃ j n : Nat, j ≤ x.length ∧ i = .int .i64 (j : Nat) ∧ wr = w.drewN n ∧ ∀ k, k < j → x[k]? = y[k]?) (fun i _ => x.length - (intOf i).toNat)
    case atStart => exact ⟨0, 0, by omega, rfl, rfl, fun k hk => by omega⟩
    case round =>
      obtain ⟨j, n, hj, rfl, rfl, hall⟩ := hrel
      have HA := Box.mk hall
      clear hall
      by_cases hlt : j < x.length
      · have hI : (j : Int) < (x.length : Int) := by omega
        have hI2 : (j : Int) < (y.length : Int) := by have := HL.out; omega
        obtain ⟨a, ha⟩ : ∃ a, x[j]? = some a := ⟨_, List.getElem?_eq_getElem hlt⟩
        obtain ⟨b, hb⟩ : ∃ b, y[j]? = some b := ⟨_, List.getElem?_eq_getElem (by have := HL.out; omega)⟩
        have c1 := h1 j a ha
        have c2 := h2 j b hb
        have HAB := Box.mk (And.intro ha hb); have HLT := Box.mk hlt
        clear h1 h2 ha hb hlt
        by_cases hab : a = b
        · have habI : (a != b) = false := by rw [bne_eq_false_iff_eq]; exact hab
          have HE := Box.mk hab
          clear hab
          go_wp2_with fail
          go_quiet (fail)
          go_wp2_with fail
          exact ⟨⟨j + 1, _, HLT.out, by go_num, rfl, fun k hk => by
            rcases Nat.lt_succ_iff_lt_or_eq.1 hk with h | rfl
            · exact HA.out k h
            · rw [HAB.out.1, HAB.out.2, HE.out]⟩, by have := HLT.out; simp [intOf]; omega⟩
        · have habI : (a != b) = true := by rw [bne_iff_ne]; exact hab
          have HE : Box (x ≠ y) := ⟨fun e => by have := HAB.out; rw [e, this.2] at this; exact hab (Option.some.inj this.1).symm⟩
          clear hab
          go_wp2_with fail
          go_quiet (fail)
          go_wp2_with fail
          go_ret
          exact ⟨by rw [decide_eq_false HE.out]; rfl, n + nq, by simp⟩
      · have hI : ¬ (j : Int) < (x.length : Int) := by omega
        have HE : Box (x = y) := ⟨List.ext_getElem? fun k => by
          rcases Nat.lt_or_ge k x.length with h | h
          · exact HA.out k (by omega)
          · have := HL.out
            rw [List.getElem?_eq_none h, List.getElem?_eq_none (by omega)]⟩
        clear hlt h1 h2
        go_wp2_with fail
        go_ret
        exact ⟨by rw [decide_eq_true HE.out]; rfl, _, rfl⟩
  · have hlI : ((x.length : Int) != (y.length : Int)) = true := by rw [bne_iff_ne]; omega
    have HE : Box (x ≠ y) := ⟨fun e => hl (by rw [e])⟩
    clear hl h1 h2
    go_enter Tryz.func34, Tryz.ntmps34
    go_wp2_with fail
    go_ret
    exact ⟨by rw [decide_eq_false HE.out]; rfl, 0, rfl⟩
set_option maxHeartbeats 1000000 in
theorem same_any (va vb : Value) (x y : List ByteArray) (hx : x.length ≤ 100000) (hy : y.length ≤ 100000) (w : World) (ga ca gb cb : Nat) (ha : va = .slice (some ⟨ga, 0, none⟩) x.length ca) (hb : vb = .slice (some ⟨gb, 0, none⟩) y.length cb) (h1 : ∀ j u, x[j]? = some u → w.cell? ⟨ga, j, none⟩ = some (.string u)) (h2 : ∀ j u, y[j]? = some u → w.cell? ⟨gb, j, none⟩ = some (.string u)) :
    Calls Tryz.prog 23 #[va, vb] w fun e w' => e = .returned (.bool (decide (x = y))) ∧ ∃ n, w' = w.drewN n := by
  subst ha hb
  by_cases hl : x.length = y.length
  · have hlI : ((x.length : Int) != (y.length : Int)) = false := by rw [bne_eq_false_iff_eq]; omega
    have HL := Box.mk hl
    clear hl
    go_enter Tryz.func23, Tryz.ntmps23
    go_wp2_with fail
    go_loopw [5] (fun i wr => ∃ j n : Nat, j ≤ x.length ∧ i = .int .i64 (j : Nat) ∧ wr = w.drewN n ∧ ∀ k, k < j → x[k]? = y[k]?) (fun i _ => x.length - (intOf i).toNat)
    case atStart => exact ⟨0, 0, by omega, rfl, rfl, fun k hk => by omega⟩
    case round =>
      obtain ⟨j, n, hj, rfl, rfl, hall⟩ := hrel
      have HA := Box.mk hall
      clear hall
      by_cases hlt : j < x.length
      · have hI : (j : Int) < (x.length : Int) := by omega
        have hI2 : (j : Int) < (y.length : Int) := by have := HL.out; omega
        obtain ⟨a, ha⟩ : ∃ a, x[j]? = some a := ⟨_, List.getElem?_eq_getElem hlt⟩
        obtain ⟨b, hb⟩ : ∃ b, y[j]? = some b := ⟨_, List.getElem?_eq_getElem (by have := HL.out; omega)⟩
        have c1 := h1 j a ha
        have c2 := h2 j b hb
        have HAB := Box.mk (And.intro ha hb); have HLT := Box.mk hlt
        clear h1 h2 ha hb hlt
        by_cases hab : a = b
        · have habI : (a.toList == b.toList) = true := by rw [beq_iff_eq, hab]
          have HE := Box.mk hab
          clear hab
          go_wp2_with fail
          go_quiet (fail)
          go_wp2_with fail
          exact ⟨⟨j + 1, _, HLT.out, by go_num, rfl, fun k hk => by
            rcases Nat.lt_succ_iff_lt_or_eq.1 hk with h | rfl
            · exact HA.out k h
            · rw [HAB.out.1, HAB.out.2, HE.out]⟩, by have := HLT.out; simp [intOf]; omega⟩
        · have habI : (a.toList == b.toList) = false := by rw [beq_eq_false_iff_ne]; exact fun h => hab (ba_ext (by rw [← ByteArray.toList_eq, ← ByteArray.toList_eq]; exact h))
          have HE : Box (x ≠ y) := ⟨fun e => by have := HAB.out; rw [e, this.2] at this; exact hab (Option.some.inj this.1).symm⟩
          clear hab
          go_wp2_with fail
          go_quiet (fail)
          go_wp2_with fail
          go_ret
          exact ⟨by rw [decide_eq_false HE.out]; rfl, n + nq, by simp⟩
      · have hI : ¬ (j : Int) < (x.length : Int) := by omega
        have HE : Box (x = y) := ⟨List.ext_getElem? fun k => by
          rcases Nat.lt_or_ge k x.length with h | h
          · exact HA.out k (by omega)
          · have := HL.out
            rw [List.getElem?_eq_none h, List.getElem?_eq_none (by omega)]⟩
        clear hlt h1 h2
        go_wp2_with fail
        go_ret
        exact ⟨by rw [decide_eq_true HE.out]; rfl, _, rfl⟩
  · have hlI : ((x.length : Int) != (y.length : Int)) = true := by rw [bne_iff_ne]; omega
    have HE : Box (x ≠ y) := ⟨fun e => hl (by rw [e])⟩
    clear hl h1 h2
    go_enter Tryz.func23, Tryz.ntmps23
    go_wp2_with fail
    go_ret
    exact ⟨by rw [decide_eq_false HE.out]; rfl, 0, rfl⟩
theorem own_ne {w : World} {b1 b2 e1 e2 s1 s2 n1 n2 : Nat} {v1 v2 : Value} {x1 x2 : List Value} (h1 : w.ownsRow b1 e1 s1 v1 n1 x1) (h2 : w.ownsRow b2 e2 s2 v2 n2 x2) (hne : e1 ≠ e2) {k : Nat} (hk : v1.ownBlock = some k) : v2.ownBlock ≠ some k := fun hk2 => by
  rcases h1.2 with ⟨rfl, _⟩ | ⟨g, c, cur, rfl, _, hg, _⟩
  · cases hk
  · rcases h2.2 with ⟨rfl, _⟩ | ⟨g2, c2, cur2, rfl, _, hg2, _⟩
    · cases hk2
    · simp only [Value.ownBlock, Option.some.injEq] at hk hk2
      subst hk hk2
      rw [hg] at hg2
      simp at hg2
      exact hne hg2.2
theorem own_below {w w' : World} {base size n : Nat} {e : TypeId} {v : Value} {xs : List Value} (h : w.ownsRow base e size v n xs) (hb : Below w.heap.size w w') : w'.ownsRow base e size v n xs := own_keep h fun k _ hl => hb.block k hl
/-- A row of strings lies apart of a log. -/
theorem LgS.apart {w : World} {F B : Int} {g q p bb cb : Nat} {v : Value} {s : FS} {l : LS} (h : LgS w F B g q p bb cb v s l) {base n : Nat} {x : Value} {xs : List Value} (ho : w.ownsRow base 9 1 x n xs) (k : Nat) (hk : x.ownBlock = some k) : k ∉ fp g v p bb cb := by
  have hrow : ∃ cur, w.heap[k]? = some (.cells cur 9 (0, 0)) := by
    rcases ho.2 with ⟨rfl, _⟩ | ⟨g, c, cur, rfl, _, hg, _⟩
    · cases hk
    · simp only [Value.ownBlock, Option.some.injEq] at hk; subst hk; exact ⟨cur, hg⟩
  obtain ⟨cur, hr⟩ := hrow
  intro hm
  unfold fp at hm
  simp only [List.mem_cons, Option.mem_toList] at hm
  rcases hm with rfl | rfl | rfl | rfl | hm
  · have := h.lg.row; rw [hr] at this; simp at this
  · obtain ⟨_, _, _, _, this⟩ := h.f.st; rw [hr] at this; simp at this
  · obtain ⟨_, _, this, _⟩ := h.f.by_; rw [hr] at this; simp at this
  · obtain ⟨_, this⟩ := h.f.cn; rw [hr] at this; simp at this
  · exact own_ne ho h.lg.own (by decide) hk hm
def strV (l : List (List UInt8)) : List Value := l.map fun r => Value.string ⟨r.toArray⟩
set_option maxHeartbeats 2000000 in
theorem all_any {w wz : World} {B g q p bb cb : Nat} {v : Value} {s : FS} {l : LS} (h : OwL w wz B g q p bb cb v s l) (hi : LInv 1 B s l) (hB : B ≤ 12) (hle : ∀ x ∈ l.segs, (recN (s.blk 1 x.1) 7 1).length ≤ 7) :
    Calls Tryz.prog 22 #[.pointer (some ⟨g, 0, none⟩)] wz fun e w' => (∃ gs cap, e = .returned (.tuple #[.slice (some ⟨gs, 0, none⟩) (s.lall 1 l.segs).length cap, .bool true]) ∧ w'.ownsRow wz.heap.size 9 1 (.slice (some ⟨gs, 0, none⟩) (s.lall 1 l.segs).length cap) (s.lall 1 l.segs).length (strV (s.lall 1 l.segs))) ∧ Below wz.heap.size wz w' := by
  have hm12 := hi.by_.lok.few
  obtain ⟨W0, hW0⟩ : ∃ W, W = wz.alloc (.cells #[] 9) := ⟨_, rfl⟩
  have bW0 : Below wz.heap.size wz W0 := by rw [hW0]; exact (Below.refl _ _).alloc (Nat.le_refl _) _
  have O0 := Box.mk (show W0.ownsRow wz.heap.size 9 1 (.slice (some ⟨wz.heap.size, 0, none⟩) 0 0) 0 [] by rw [hW0]; exact World.ownsRow_lit (base := wz.heap.size) (size := 1) (e := 9) wz #[] 0 (Nat.le_refl _) (by unfold maxLen; omega) rfl)
  have SG := Box.mk ((h.same bW0).segs hi hB)
  have BW0 := Box.mk bW0
  have HH := Box.mk h
  have S0 : Box (wz.heap.size ≤ W0.heap.size) := ⟨bW0.size⟩
  clear bW0 h
  obtain ⟨b0, hb0⟩ : ∃ b, b = wz.heap.size := ⟨_, rfl⟩
  go_enter Tryz.func22, Tryz.ntmps22
  go_upto_region 2 with (fail)
  rw [← hW0, ← hb0]
  rw [← hb0] at O0
  clear hW0
  go_wp2_with fail
  refine SG.out.mono ?_
  rintro e w1 ⟨gs, cap, rfl, hown, hol, hb⟩
  have RS := Box.mk (show w1.ownsRow b0 3 1 (.slice (some ⟨gs, 0, none⟩) l.segs.length cap) l.segs.length (segN l.segs) from by
    refine ⟨hown.1, hown.2.imp id fun ⟨a, b, c, d, f, r⟩ => ⟨a, b, c, d, Nat.le_trans (by rw [hb0]; exact S0.out) f, r⟩⟩)
  have O1 := Box.mk (own_below O0.out hb)
  have B1 := Box.mk (show Below b0 wz w1 by rw [hb0]; exact BW0.out.trans (hb.mono S0.out))
  have HB0 := Box.mk hb0
  clear hown hol hb SG O0 BW0 S0 hb0
  go_wp2_with fail
  go_loopw [4, 6, 7, 8] (fun o i _ _ wr => ∃ j c go, j ≤ l.segs.length ∧ i = .int .i64 (j : Nat) ∧ o = .slice (some ⟨go, 0, none⟩) (s.lall 1 (l.segs.take j)).length c ∧ wr.ownsRow b0 9 1 (.slice (some ⟨go, 0, none⟩) (s.lall 1 (l.segs.take j)).length c) (s.lall 1 (l.segs.take j)).length (strV (s.lall 1 (l.segs.take j))) ∧ wr.ownsRow b0 3 1 (.slice (some ⟨gs, 0, none⟩) l.segs.length cap) l.segs.length (segN l.segs) ∧ (s.lall 1 (l.segs.take j)).length ≤ 7 * j ∧ Below b0 wz wr) (fun _ i _ _ _ => l.segs.length - (intOf i).toNat)
  case atStart => exact ⟨0, 0, b0, by omega, rfl, rfl, O1.out, RS.out, by simp [FS.lall], B1.out⟩
  case round =>
    clear O1 RS B1
    obtain ⟨j, c, go, hj, rfl, rfl, ho, hs, hlen, hb⟩ := hrel
    have HO := Box.mk ho; have HS := Box.mk hs; have HB := Box.mk hb; have HLEN := Box.mk hlen
    clear ho hb hlen
    by_cases hlt : j < l.segs.length
    · have hI : (j : Int) < (l.segs.length : Int) := by omega
      obtain ⟨x, hx⟩ : ∃ x, l.segs[j]? = some x := ⟨_, List.getElem?_eq_getElem hlt⟩
      have hxm := List.mem_of_getElem? hx
      have c1 : wr.cell? ⟨gs, j, none⟩ = some (.int .i64 (x.2 : Nat)) := by
        rw [hs.cellAt j (by omega)]; unfold segN; rw [List.getElem?_map, hx]; rfl
      have RC := Box.mk ((HH.out.same (by rw [← HB0.out]; exact HB.out)).records hi x hxm)
      have htk : l.segs.take (j + 1) = l.segs.take j ++ [x] := by rw [List.take_add_one, hx]; rfl
      have hla : s.lall 1 (l.segs.take (j + 1)) = s.lall 1 (l.segs.take j) ++ recN (s.blk 1 x.1) 7 1 := by rw [htk, lall_app]; unfold FS.lall; simp
      have hr7 := hle x hxm
      have HLA := Box.mk hla; have HLT := Box.mk hlt
      generalize recN (s.blk 1 x.1) 7 1 = rs at RC hr7 HLA
      generalize s.lall 1 (l.segs.take j) = A at HO HLEN HLA
      clear hs hx hxm htk hla hlt
      go_wp2_with fail
      refine RC.out.mono ?_
      rintro e w2 ⟨⟨v2, rfl, hown2⟩, _, hb2⟩
      have O2 := Box.mk (own_below HO.out hb2); have S2 := Box.mk (own_below HS.out hb2); have B2 := Box.mk (show Below b0 wz w2 from HB.out.trans (hb2.mono (by rw [HB0.out]; exact HB.out.size)))
      have HW2 := Box.mk hown2
      clear hb2 HO HS HB RC c1
      have S9 := Box.mk (show b0 ≤ w2.heap.size from by
        have := B2.out.size; have e := HB0.out; omega)
      have hAc : A.length ≤ c := by
        rcases O2.out.2 with ⟨h, _⟩ | ⟨_, _, _, hv, _, _, h, _⟩
        · cases h
        · cases hv; exact h
      rcases hown2.2 with ⟨rfl, h0⟩ | ⟨gg, cc, cu, rfl, hrest⟩
      · obtain rfl : rs = [] := List.eq_nil_of_length_eq_zero h0
        have hA : Box (s.lall 1 (l.segs.take (j + 1)) = A) := ⟨by rw [HLA.out, List.append_nil]⟩
        clear hown2
        go_wp2_with fail
        exact ⟨⟨j + 1, c, go, HLT.out, by go_num, by rw [hA.out], by rw [hA.out]; exact O2.out, S2.out, by rw [hA.out]; have := HLEN.out; omega, B2.out⟩, by have := HLT.out; simp [intOf]; omega⟩
      · have hcs : Box (∀ k u, (strV rs)[k]? = some u → w2.cell? ((⟨gg, 0, none⟩ : Addr).add k) = some u) := ⟨HW2.out.cells (g := gg) rfl⟩
        have hone : ∀ u ∈ strV rs, u.oneCell' = true := fun u hu => by
          obtain ⟨r, _, rfl⟩ := List.mem_map.1 hu; rfl
        have hl2 : (strV rs).length = rs.length * 1 := by simp [strV]
        obtain ⟨i0, hi0, hz0, hsz0, hby0⟩ := info_parts info_str
        have hA : Box (s.lall 1 (l.segs.take (j + 1)) = A ++ rs) := ⟨HLA.out⟩
        have hal := HLEN.out
        have hj12 : j ≤ 12 := by omega
        clear hown2 hrest
        go_wp2_with (at_builtin; refine wpList_append_own _ rfl (.tmp 29) (.tmp 30) 51 rfl b0 9 i0 (.string ⟨#[]⟩) 1 16 Tryz.underlying51 hi0 hz0 hsz0 hby0 rfl (by decide) (.slice (some ⟨go, 0, none⟩) A.length c) A.length (strV A) rfl O2.out ⟨gg, 0, none⟩ rs.length cc (strV rs) rfl hl2 hcs.out hone (by unfold maxLen; omega) (by omega) S9.out ?_; intro v' w' hown' hgrow hnil)
        have hv' : ∃ g' c', v' = .slice (some ⟨g', 0, none⟩) (A.length + rs.length) c' := by
          rcases hown'.2 with ⟨hn, _⟩ | ⟨g', c', cu', hv, _⟩
          · have := (hnil.1 hn).1; cases this
          · exact ⟨g', c', hv⟩
        obtain ⟨g', c', rfl⟩ := hv'
        have hS := own_keep S2.out (w' := w') fun k hk hl => hgrow.block k hl (fun e => own_ne S2.out O2.out (by decide) hk e.symm)
        refine ⟨⟨j + 1, c', g', HLT.out, by go_num, by rw [hA.out, List.length_append], ?_, hS, by rw [hA.out, List.length_append]; omega, B2.out.grown hgrow S9.out (fun k e => (World.ownsRow.lt O2.out k e).1)⟩, by have := HLT.out; simp [intOf]; omega⟩
        rw [hA.out, List.length_append, show strV (A ++ rs) = strV A ++ strV rs by simp [strV]]
        exact hown'
    · have hI : ¬ (j : Int) < (l.segs.length : Int) := by omega
      have hT : Box (l.segs.take j = l.segs) := ⟨List.take_of_length_le (by omega)⟩
      clear hlt hs
      go_wp2_with fail
      go_ret2
      have e := hT.out
      rw [e]
      exact ⟨⟨go, c, rfl, by rw [← HB0.out]; have := HO.out; rw [e] at this; exact this⟩, by rw [← HB0.out]; exact HB.out⟩
end Go.Proofs.YtjednaendedpdaaGreat
namespace Go.Proofs.YtjednaendedpdaaGreat
set_option maxRecDepth 100000
set_option linter.unusedVariables false
open Go Go.RowKit
namespace Gd
section
variable {P : Program} {W : World} {S : List Nat} {ops : Array Oper}

/-- Is the operation wanted, by what has come out so far? -/
def want (ops : Array Oper) (o : Oper) (a : Act) : Bool := Region.wanted o (yielded ops a.tmps)
def yieldsW (P : Program) (W : World) (S : List Nat) (ops : Array Oper) (o : Oper) (a : Act) (v : Value) : Prop := (want ops o a = true ∧ yieldsG P W S o a v) ∨ (want ops o a = false ∧ v = undef)
def makesW (P : Program) (W : World) (S : List Nat) (ops : Array Oper) (o : Oper) (a : Act) (X : Obj) : Prop := want ops o a = true ∧ makesG P W S o a X
def stepsW (P : Program) (S : List Nat) (ops : Array Oper) (o : Oper) (a : Act) (w : World) (R : Value → World → Prop) : Prop := (want ops o a = true ∧ steps P S o a w R) ∨ (want ops o a = false ∧ R undef w)
theorem stepsW.mono {o : Oper} {a : Act} {w : World} {R R' : Value → World → Prop} (h : stepsW P S ops o a w R) (hr : ∀ v w', R v w' → R' v w') : stepsW P S ops o a w R' :=
  h.imp (fun h => ⟨h.1, h.2.mono hr⟩) (fun h => ⟨h.1, hr _ _ h.2⟩)
theorem stepsW.some {o : Oper} {a : Act} {w : World} {R : Value → World → Prop} (h : stepsW P S ops o a w R) : ∃ v w', R v w' :=
  h.elim (fun h => h.2.some) (fun h => ⟨_, _, h.2⟩)
theorem want_i {i j : Oper} (h : Apt ops j i) (a : Act) (u : Value) : want ops i (a.put j.dst u) = want ops i a := wanted_put i a j.dst u (Oper.apart_spec h.ap).1
theorem want_j {i j : Oper} (h : Apt ops j i) (a : Act) (u : Value) : want ops j (a.put i.dst u) = want ops j a := wanted_put j a i.dst u (Oper.apart_spec h.ap).2.2
theorem y_i {i j : Oper} (h : Apt ops j i) (a : Act) (u v : Value) : yieldsW P W S ops i (a.put j.dst u) v = yieldsW P W S ops i a v := by unfold yieldsW yieldsG; rw [want_i h, h.exec_i]
theorem y_j {i j : Oper} (h : Apt ops j i) (a : Act) (u v : Value) : yieldsW P W S ops j (a.put i.dst u) v = yieldsW P W S ops j a v := by unfold yieldsW yieldsG; rw [want_j h, h.exec_j]
theorem m_i {i j : Oper} (h : Apt ops j i) (a : Act) (u : Value) (X : Obj) : makesW P W S ops i (a.put j.dst u) X = makesW P W S ops i a X := by unfold makesW makesG; rw [want_i h, h.exec_i]
theorem m_j {i j : Oper} (h : Apt ops j i) (a : Act) (u : Value) (X : Obj) : makesW P W S ops j (a.put i.dst u) X = makesW P W S ops j a X := by unfold makesW makesG; rw [want_j h, h.exec_j]
theorem s_i {i j : Oper} (h : Apt ops j i) (a : Act) (u : Value) (w : World) (R : Value → World → Prop) : stepsW P S ops i (a.put j.dst u) w R = stepsW P S ops i a w R := by unfold stepsW steps; rw [want_i h, h.exec_i]
theorem s_j {i j : Oper} (h : Apt ops j i) (a : Act) (u : Value) (w : World) (R : Value → World → Prop) : stepsW P S ops j (a.put i.dst u) w R = stepsW P S ops j a w R := by unfold stepsW steps; rw [want_j h, h.exec_j]
def wpW (P : Program) (W : World) (S : List Nat) (ops : Array Oper) (T : (World → Prop) → List Nat → Act → Prop) : List (Oper × Kd) → (World → Prop) → List Nat → Act → Prop
  | [], F, N, a => T F N a
  | (o, .flo) :: L, F, N, a => ∃ v, yieldsW P W S ops o a v ∧ wpW P W S ops T L F N (a.put o.dst v)
  | (o, .new X) :: L, F, N, a => makesW P W S ops o a X ∧ ∀ b, W.heap.size ≤ b → b ∉ N → wpW P W S ops T L (fun w => F w ∧ w.heap[b]? = some X) (b :: N) (a.put o.dst (.pointer (some ⟨b, 0, none⟩)))
  | (o, .cha) :: L, F, N, a => ∀ w, GrS S W w → F w → stepsW P S ops o a w (fun v w' => GrD S N w w' ∧ ∃ F' N', Stb F' ∧ F' w' ∧ (∀ b ∈ N', w.heap.size ≤ b ∧ b < w'.heap.size) ∧ wpW P W S ops T L F' (N' ++ N) (a.put o.dst v))

theorem wpW_sub {P : Program} {W : World} {S : List Nat} {ops : Array Oper} {T : (World → Prop) → List Nat → Act → Prop} (hT : ∀ F N N' a, (∀ b, b ∈ N → b ∈ N') → T F N a → T F N' a) : ∀ (L : List (Oper × Kd)) (F : World → Prop) (N N' : List Nat) (a : Act), (∀ b, b ∈ N → b ∈ N') → wpW P W S ops T L F N a → wpW P W S ops T L F N' a
  | [], F, N, N', a, h, hg => hT F N N' a h hg
  | (o, .flo) :: L, F, N, N', a, h, ⟨v, hv, hg⟩ => ⟨v, hv, wpW_sub hT L F N N' _ h hg⟩
  | (o, .new X) :: L, F, N, N', a, h, ⟨hm, hg⟩ => ⟨hm, fun b hb hn => wpW_sub hT L _ (b :: N) (b :: N') _ (fun c hc => by
      rcases List.mem_cons.1 hc with h' | h'
      · exact h' ▸ List.mem_cons_self
      · exact List.mem_cons_of_mem _ (h c h')) (hg b hb (fun h' => hn (h b h')))⟩
  | (o, .cha) :: L, F, N, N', a, h, hg => fun w hw hF => by
    refine (hg w hw hF).mono fun v w' ⟨hgr, F', M, hs, hF', hl, h'⟩ => ⟨hgr.sub h, F', M, hs, hF', hl, wpW_sub hT L F' (M ++ N) (M ++ N') _ (fun b hb => ?_) h'⟩
    rcases List.mem_append.1 hb with h' | h'
    · exact List.mem_append_left _ h'
    · exact List.mem_append_right _ (h b h')
variable {T : (World → Prop) → List Nat → Act → Prop} {oi : Oper}

theorem ex_flo {B : List (Oper × Kd)} : ∀ (A : List (Oper × Kd)), (∀ p ∈ A, Apt ops p.1 oi) → ∀ (F : World → Prop) (N : List Nat) (a : Act) (w : World), Known W S F N w → wpW P W S ops T (A ++ (oi, .flo) :: B) F N a → ∃ v, yieldsW P W S ops oi a v
  | [], _, _, _, _, _, _, ⟨v, h, _⟩ => ⟨v, h⟩
  | (oj, .flo) :: A, hA, F, N, a, w, hk, ⟨u, _, h⟩ => by
    obtain ⟨v, hv⟩ := ex_flo A (fun p hp => hA p (List.mem_cons_of_mem _ hp)) F N _ w hk h
    exact ⟨v, by rwa [y_i (hA _ List.mem_cons_self)] at hv⟩
  | (oj, .new X) :: A, hA, F, N, a, w, hk, ⟨_, h⟩ => by
    obtain ⟨v, hv⟩ := ex_flo A (fun p hp => hA p (List.mem_cons_of_mem _ hp)) _ _ _ (w.alloc X) (hk.new X) (h w.heap.size hk.gr.size hk.fresh)
    exact ⟨v, by rwa [y_i (hA _ List.mem_cons_self)] at hv⟩
  | (oj, .cha) :: A, hA, F, N, a, w, hk, h => by
    obtain ⟨u, w', hg, F', M, hs', hF', hl, h'⟩ := (h w hk.gr hk.fa).some
    obtain ⟨v, hv⟩ := ex_flo A (fun p hp => hA p (List.mem_cons_of_mem _ hp)) F' _ _ w' (hk.call hg hs' hF' hl) h'
    exact ⟨v, by rwa [y_i (hA _ List.mem_cons_self)] at hv⟩

theorem rem_flo {v : Value} {B : List (Oper × Kd)} : ∀ (A : List (Oper × Kd)), (∀ p ∈ A, Apt ops p.1 oi) → ∀ (F : World → Prop) (N : List Nat) (a : Act), yieldsW P W S ops oi a v → wpW P W S ops T (A ++ (oi, .flo) :: B) F N a → wpW P W S ops T (A ++ B) F N (a.put oi.dst v)
  | [], _, _, _, a, hv, ⟨v', h', hg⟩ => by
    have e : v = v' := by
      rcases hv with ⟨g1, hv⟩ | ⟨g1, hv⟩ <;> rcases h' with ⟨g2, h'⟩ | ⟨g2, h'⟩ <;> rw [g1] at g2
      · rcases hv W (GrS.refl _ _) with h1 | ⟨h1, e1⟩ <;> rcases h' W (GrS.refl _ _) with h2 | ⟨h2, e2⟩ <;> rw [h1] at h2
        · injection h2 with h3; injection h3
        · injection h2 with h3; cases h3
        · injection h2 with h3; cases h3
        · rw [e1, e2]
      · cases g2
      · cases g2
      · rw [hv, h']
    subst e
    exact hg
  | (oj, .flo) :: A, hA, F, N, a, hv, ⟨u, hu, h⟩ => by
    have hj := hA _ List.mem_cons_self
    refine ⟨u, by rw [y_j hj]; exact hu, ?_⟩
    rw [← hj.comm]
    exact rem_flo A (fun p hp => hA p (List.mem_cons_of_mem _ hp)) F N _ (by rw [y_i hj]; exact hv) h
  | (oj, .new X) :: A, hA, F, N, a, hv, ⟨hm, h⟩ => by
    have hj := hA _ List.mem_cons_self
    refine ⟨by rw [m_j hj]; exact hm, fun b hb hn => ?_⟩
    rw [← hj.comm]
    exact rem_flo A (fun p hp => hA p (List.mem_cons_of_mem _ hp)) _ _ _ (by rw [y_i hj]; exact hv) (h b hb hn)
  | (oj, .cha) :: A, hA, F, N, a, hv, h => by
    have hj := hA _ List.mem_cons_self
    intro w hw hF
    have h0 := h w hw hF
    rw [← s_j hj a v] at h0
    refine h0.mono fun u w' ⟨hg, F', M, hs', hF', hl, h'⟩ => ⟨hg, F', M, hs', hF', hl, ?_⟩
    rw [← hj.comm]
    exact rem_flo A (fun p hp => hA p (List.mem_cons_of_mem _ hp)) F' _ _ (by rw [y_i hj]; exact hv) h'

theorem ex_new {X : Obj} {B : List (Oper × Kd)} : ∀ (A : List (Oper × Kd)), (∀ p ∈ A, Apt ops p.1 oi) → ∀ (F : World → Prop) (N : List Nat) (a : Act) (w : World), Known W S F N w → wpW P W S ops T (A ++ (oi, .new X) :: B) F N a → makesW P W S ops oi a X
  | [], _, _, _, _, _, _, ⟨h, _⟩ => h
  | (oj, .flo) :: A, hA, F, N, a, w, hk, ⟨u, _, h⟩ => by
    have hv := ex_new A (fun p hp => hA p (List.mem_cons_of_mem _ hp)) F N _ w hk h
    rwa [m_i (hA _ List.mem_cons_self)] at hv
  | (oj, .new Y) :: A, hA, F, N, a, w, hk, ⟨_, h⟩ => by
    have hv := ex_new A (fun p hp => hA p (List.mem_cons_of_mem _ hp)) _ _ _ (w.alloc Y) (hk.new Y) (h w.heap.size hk.gr.size hk.fresh)
    rwa [m_i (hA _ List.mem_cons_self)] at hv
  | (oj, .cha) :: A, hA, F, N, a, w, hk, h => by
    obtain ⟨u, w', hg, F', M, hs', hF', hl, h'⟩ := (h w hk.gr hk.fa).some
    have hv := ex_new A (fun p hp => hA p (List.mem_cons_of_mem _ hp)) F' _ _ w' (hk.call hg hs' hF' hl) h'
    rwa [m_i (hA _ List.mem_cons_self)] at hv

theorem rem_new (hT : ∀ F N N' a, (∀ b, b ∈ N → b ∈ N') → T F N a → T F N' a) (hS : ∀ k ∈ S, k < W.heap.size) {X : Obj} {b : Nat} (hb : W.heap.size ≤ b) {B : List (Oper × Kd)} : ∀ (A : List (Oper × Kd)), (∀ p ∈ A, Apt ops p.1 oi) → ∀ (F : World → Prop) (N : List Nat) (a : Act), b ∉ N → wpW P W S ops T (A ++ (oi, .new X) :: B) F N a →
    wpW P W S ops T (A ++ B) (fun w => F w ∧ w.heap[b]? = some X) (b :: N) (a.put oi.dst (.pointer (some ⟨b, 0, none⟩)))
  | [], _, _, _, a, hn, ⟨_, h⟩ => h b hb hn
  | (oj, .flo) :: A, hA, F, N, a, hn, ⟨u, hu, h⟩ => by
    have hj := hA _ List.mem_cons_self
    refine ⟨u, by rw [y_j hj]; exact hu, ?_⟩
    rw [← hj.comm]
    exact rem_new hT hS hb A (fun p hp => hA p (List.mem_cons_of_mem _ hp)) F N _ hn h
  | (oj, .new Y) :: A, hA, F, N, a, hn, ⟨hm, h⟩ => by
    have hj := hA _ List.mem_cons_self
    refine ⟨by rw [m_j hj]; exact hm, fun b' hb' hn' => ?_⟩
    rw [← hj.comm, and_swap3]
    have hne : b' ≠ b := fun h => hn' (h ▸ List.mem_cons_self)
    refine wpW_sub hT _ _ (b :: b' :: N) (b' :: b :: N) _ (fun c hc => ?_) (rem_new hT hS hb A (fun p hp => hA p (List.mem_cons_of_mem _ hp)) _ (b' :: N) _ (fun h => ?_) (h b' hb' (fun h => hn' (List.mem_cons_of_mem _ h))))
    · simp only [List.mem_cons] at hc ⊢; rcases hc with h | h | h <;> simp [h]
    · rcases List.mem_cons.1 h with h' | h'
      · exact hne h'.symm
      · exact hn h'
  | (oj, .cha) :: A, hA, F, N, a, hn, h => by
    have hj := hA _ List.mem_cons_self
    intro w hw hF
    have h0 := h w hw hF.1
    rw [← s_j hj a (.pointer (some ⟨b, 0, none⟩))] at h0
    refine h0.mono fun u w' ⟨hg, F', M, hs', hF', hl, h'⟩ =>
      ⟨hg.sub (fun _ h => List.mem_cons_of_mem _ h), fun x => F' x ∧ x.heap[b]? = some X, M, hs'.new b X, ⟨hF', hg.at (fun h => Nat.lt_irrefl _ (Nat.lt_of_lt_of_le (hS b h) hb)) hn hF.2⟩, hl, ?_⟩
    rw [← hj.comm]
    have hlt := Gr.blt hF.2
    refine wpW_sub hT _ _ (b :: (M ++ N)) (M ++ b :: N) _ (fun c hc => ?_) (rem_new hT hS hb A (fun p hp => hA p (List.mem_cons_of_mem _ hp)) F' (M ++ N) _ (fun h => ?_) h')
    · simp only [List.mem_cons, List.mem_append] at hc ⊢; rcases hc with h | h | h <;> simp [h]
    · rcases List.mem_append.1 h with h' | h'
      · have := hl b h'; omega
      · exact hn h'

theorem rem_cha {B : List (Oper × Kd)} : ∀ (A : List (Oper × Kd)), (∀ p ∈ A, Apt ops p.1 oi ∧ p.2.isFlo = true) → ∀ (F : World → Prop) (N : List Nat) (a : Act), wpW P W S ops T (A ++ (oi, .cha) :: B) F N a →
    ∀ w, GrS S W w → F w → stepsW P S ops oi a w (fun v w' => GrD S N w w' ∧ ∃ F' M, Stb F' ∧ F' w' ∧ (∀ b ∈ M, w.heap.size ≤ b ∧ b < w'.heap.size) ∧ wpW P W S ops T (A ++ B) F' (M ++ N) (a.put oi.dst v))
  | [], _, _, _, _, h, w, hw, hF => h w hw hF
  | (oj, .flo) :: A, hA, F, N, a, ⟨u, hu, h⟩, w, hw, hF => by
    have hj := (hA _ List.mem_cons_self).1
    have h0 := rem_cha A (fun p hp => hA p (List.mem_cons_of_mem _ hp)) F N _ h w hw hF
    rw [s_i hj a u] at h0
    refine h0.mono fun v w' ⟨hg, F', M, hs', hF', hl, h'⟩ => ⟨hg, F', M, hs', hF', hl, u, by rw [y_j hj]; exact hu, ?_⟩
    rw [← hj.comm]
    exact h'
  | (oj, .new X) :: A, hA, _, _, _, _, _, _, _ => by have := (hA _ List.mem_cons_self).2; cases this
  | (oj, .cha) :: A, hA, _, _, _, _, _, _, _ => by have := (hA _ List.mem_cons_self).2; cases this

/-- For each operation which ones it waits for, as bits. -/
def maskOf (R : Array Nat) (o : Oper) : Nat := o.after.toList.foldl (fun m e => if Region.binds .any e = true then (m ||| 2 ^ e.on) ||| R.getD e.on 0 else m) 0
def masks : List Oper → Array Nat → Array Nat
  | [], R => R
  | o :: l, R => masks l (R.push (maskOf R o))
theorem fold_bits (R : Array Nat) (j : Nat) : ∀ (l : List Edge) (m : Nat), (l.foldl (fun m e => if Region.binds .any e = true then (m ||| 2 ^ e.on) ||| R.getD e.on 0 else m) m).testBit j = true →
    m.testBit j = true ∨ ∃ e ∈ l, Region.binds .any e = true ∧ (e.on = j ∨ (R.getD e.on 0).testBit j = true)
  | [], m, h => .inl h
  | e :: l, m, h => by
    rw [List.foldl_cons] at h
    rcases fold_bits R j l _ h with h | ⟨e', he', hb, h⟩
    · by_cases hb : Region.binds .any e = true
      · rw [if_pos hb, Nat.testBit_or, Nat.testBit_or, Bool.or_eq_true, Bool.or_eq_true, Nat.testBit_two_pow, decide_eq_true_iff] at h
        rcases h with (h | h) | h
        · exact .inl h
        · exact .inr ⟨e, List.mem_cons_self, hb, .inl h⟩
        · exact .inr ⟨e, List.mem_cons_self, hb, .inr h⟩
      · rw [if_neg hb] at h; exact .inl h
    · exact .inr ⟨e', List.mem_cons_of_mem _ he', hb, h⟩
def Wt (ops : Array Oper) (i j : Nat) : Prop := ∃ f, waits ops f i j = true
theorem mask_wt {ops : Array Oper} {R : Array Nat} (hR : ∀ i j, (R.getD i 0).testBit j = true → Wt ops i j) {k : Nat} {o : Oper} (ho : ops[k]? = some o) {j : Nat} (h : (maskOf R o).testBit j = true) : Wt ops k j := by
  rcases fold_bits R j _ 0 h with h | ⟨e, he, hb, h⟩
  · simp at h
  · have hmem : e ∈ o.after := by simpa using he
    rcases h with h | h
    · refine ⟨1, ?_⟩
      simp only [waits, ho, Option.map_some, Option.getD_some, Bool.or_eq_true]
      rw [← Array.any_toList, ← Array.any_toList]
      exact .inl (List.any_eq_true.2 ⟨e, he, by simp [hb, h]⟩)
    · obtain ⟨f, hf⟩ := hR _ _ h
      refine ⟨f + 1, ?_⟩
      simp only [waits, ho, Option.map_some, Option.getD_some, Bool.or_eq_true]
      rw [← Array.any_toList, ← Array.any_toList]
      exact .inr (List.any_eq_true.2 ⟨e, he, by simp [hb, hf]⟩)
theorem masks_wt {ops : Array Oper} : ∀ (l : List Oper) (R : Array Nat), (∀ i j, (R.getD i 0).testBit j = true → Wt ops i j) → (∀ k, ops[R.size + k]? = l[k]?) → ∀ i j, ((masks l R).getD i 0).testBit j = true → Wt ops i j
  | [], R, hR, _ => hR
  | o :: l, R, hR, hl => masks_wt l (R.push (maskOf R o)) (fun i j h => by
      have ho : ops[R.size]? = some o := by have := hl 0; simpa using this
      by_cases hi : i = R.size
      · subst hi
        have e : (R.push (maskOf R o)).getD R.size 0 = maskOf R o := by simp
        rw [e] at h
        exact mask_wt hR ho h
      · have e : (R.push (maskOf R o)).getD i 0 = R.getD i 0 := by
          simp only [Array.getD_eq_getD_getElem?, Array.getElem?_push, if_neg hi]
        rw [e] at h
        exact hR i j h) (fun k => by
      have := hl (k + 1)
      rw [Array.size_push, Nat.add_assoc, Nat.add_comm 1 k]
      simpa using this)
theorem wt_of {ops : Array Oper} {i j : Nat} (h : ((masks ops.toList #[]).getD i 0).testBit j = true) : Wt ops i j :=
  masks_wt ops.toList #[] (fun i j h => by simp at h) (fun k => by simp) i j h
def mixR (ops : Array Oper) (R : Array Nat) (n : Nat) (kd : Nat → Kd) : Bool :=
  Region.noSelect ops && decide (n < ops.size) && ((List.range ops.size).all fun t => decide (t < n) || (List.range n).all fun i => (R.getD t 0).testBit i) &&
  (List.range n).all fun i => match ops[i]? with
    | none => false
    | some oi => oi.after.all (fun e => !Region.binds .any e || decide (e.on < i)) &&
      (List.range i).all fun j => match ops[j]? with
        | none => false
        | some oj => ((R.getD i 0).testBit j || oj.apart ops oi) && (!(kd i).isCha || (kd j).isFlo || (R.getD i 0).testBit j)
def mixW (ops : Array Oper) (n : Nat) (kd : Nat → Kd) : Bool := mixR ops (masks ops.toList #[]) n kd

end

section
variable {P : Program} {ops : Array Oper} {W : World} {S : List Nat} {Q : Exit → Act → World → Prop} {T : (World → Prop) → List Nat → Act → Prop}

theorem anyG (hS : ∀ k ∈ S, k < W.heap.size) {n g : Nat} {kd : Nat → Kd} (hB : mixW ops n kd = true) (hg : n + g = ops.size) (pr : Nat → Oper × Kd) (hpr : ∀ i o, ops[i]? = some o → pr i = (o, kd i))
    (hTN : ∀ F N N' a, (∀ b, b ∈ N → b ∈ N') → T F N a → T F N' a)
    (hT : ∀ F N a w, T F N a → GrS S W w → F w → wpAny P .any ops Q g (canonL n g) a w) :
    ∀ (m : Nat) (L : List Nat) (listed : Array Bool) (a : Act) (w : World) (F : World → Prop) (N : List Nat), L.length = m → HeadInv .any ops n listed → (∀ i, i ∈ L ↔ i < n ∧ listed.getD i true = false) → L.Pairwise (· < ·) →
      Known W S F N w → wpW P W S ops T (L.map pr) F N a → wpAny P .any ops Q (m + g) listed a w := by
  simp only [mixW, mixR, Bool.and_eq_true, decide_eq_true_eq] at hB
  obtain ⟨⟨⟨hsel, hn⟩, htail⟩, hall⟩ := hB
  have hget : ∀ i, i < n → ∃ oi, ops[i]? = some oi ∧ (∀ e ∈ oi.after, Region.binds .any e = true → e.on < i) ∧
      ∀ j, j < i → ∀ oj, ops[j]? = some oj → (((masks ops.toList #[]).getD i 0).testBit j || oj.apart ops oi) = true ∧ (!(kd i).isCha || (kd j).isFlo || ((masks ops.toList #[]).getD i 0).testBit j) = true := by
    intro i hi
    have h1 := List.all_eq_true.1 hall i (List.mem_range.2 hi)
    cases ho : ops[i]? with
    | none => simp [ho] at h1
    | some oi =>
      simp only [ho, Bool.and_eq_true] at h1
      obtain ⟨h3, h4⟩ := h1
      refine ⟨oi, rfl, fun e he hb => ?_, fun j hj oj hoj => ?_⟩
      · have := Array.all_eq_true_iff_forall_mem.1 h3 e he
        simp only [hb, Bool.not_true, Bool.false_or, decide_eq_true_eq] at this
        exact this
      · have h5 := List.all_eq_true.1 h4 j (List.mem_range.2 hj)
        simp only [hoj, Bool.and_eq_true] at h5
        exact h5
  intro m
  induction m with
  | zero =>
    intro L listed a w F N hm inv hL _ hkn h
    have hnil : L = [] := List.length_eq_zero_iff.1 hm
    subst hnil
    rw [Nat.zero_add]
    have : listed = canonL n (ops.size - n) := by
      refine Array.ext (by rw [inv.size]; simp [canonL]; omega) fun i h1 h2 => ?_
      rw [inv.size] at h1
      by_cases hi : i < n
      · have h3 : ¬ listed.getD i true = false := fun h => by have := (hL i).2 ⟨hi, h⟩; cases this
        have h4 := getD_tf h3 (by rw [inv.size]; exact h1)
        simp [inv.size, h1] at h4
        simp [canonL, hi, h4]
      · have h4 := inv.tail i (by omega) h1
        simp [inv.size, h1] at h4
        simp [canonL, Array.getElem_append, h4]; omega
    rw [this, show ops.size - n = g by omega]
    exact hT F N a w h hkn.gr hkn.fa
  | succ m ih =>
    intro L listed a w F N hm inv hL hp hkn h
    have hready : ∃ i0, i0 ∈ Region.ready .any ops listed ∧ i0 ∈ L := by
      cases L with
      | nil => simp at hm
      | cons i0 L =>
        have h0 := (hL i0).1 List.mem_cons_self
        obtain ⟨oi, ho, ha, _⟩ := hget i0 h0.1
        refine ⟨i0, mem_ready.2 ⟨h0.2, oi, ho, fun e he hb => ?_⟩, List.mem_cons_self⟩
        have hlt := ha e he hb
        refine getD_tf (fun hf => ?_) (by rw [inv.size]; omega)
        have hmem := (hL e.on).2 ⟨by omega, hf⟩
        rcases List.mem_cons.1 hmem with h' | h'
        · omega
        · have := (List.pairwise_cons.1 hp).1 _ h'; omega
    obtain ⟨i0, hr0, hm0⟩ := hready
    rw [show m + 1 + g = (m + g) + 1 by omega]
    refine ⟨fun h => (by rw [h] at hr0; cases hr0), fun i hi => ?_⟩
    have hin : i < n := by
      rcases Nat.lt_or_ge i n with h' | h'
      · exact h'
      · obtain ⟨_, ot, hot, hdt⟩ := mem_ready.1 hi
        have h1 := List.all_eq_true.1 htail i (List.mem_range.2 (Array.getElem?_eq_some_iff.1 hot).1)
        simp only [Bool.or_eq_true, decide_eq_true_eq] at h1
        have h2 := List.all_eq_true.1 (h1.resolve_left (by omega)) i0 (List.mem_range.2 ((hL i0).1 hm0).1)
        obtain ⟨f3, h2⟩ := wt_of h2
        have h3 := waits_listed inv.closed f3 i ot hot hdt h2
        rw [getD_both ((hL i0).1 hm0).2] at h3
        cases h3
    obtain ⟨hiun, oi', hoi', hdone⟩ := mem_ready.1 hi
    obtain ⟨oi, hoi, _, hrel⟩ := hget i hin
    obtain rfl : oi' = oi := Option.some.inj (hoi'.symm.trans hoi)
    have hiL : i ∈ L := (hL i).2 ⟨hin, hiun⟩
    obtain ⟨A, B, rfl⟩ := List.append_of_mem hiL
    have hpair := List.pairwise_append.1 hp
    have hAp : ∀ p ∈ A.map pr, Apt ops p.1 oi' ∧ ((kd i).isCha = true → p.2.isFlo = true) := by
      intro p hpm
      obtain ⟨j, hj, rfl⟩ := List.mem_map.1 hpm
      have hji : j < i := hpair.2.2 j hj i List.mem_cons_self
      have hjL := (hL j).1 (List.mem_append_left _ hj)
      obtain ⟨oj, hoj, _⟩ := hget j hjL.1
      have hno : ((masks ops.toList #[]).getD i 0).testBit j = false := by
        cases hq : ((masks ops.toList #[]).getD i 0).testBit j with
        | false => rfl
        | true =>
          obtain ⟨f3, hq⟩ := wt_of hq
          have := waits_listed inv.closed f3 i oi' hoi hdone hq
          rw [getD_both hjL.2] at this
          cases this
      have h5 := hrel j hji oj hoj
      rw [hno, Bool.false_or, Bool.or_false] at h5
      rw [hpr j oj hoj]
      refine ⟨⟨h5.1, fun cs b => Region.noSelect_spec hsel j oj cs b hoj, fun cs b => Region.noSelect_spec hsel i oi' cs b hoi⟩, fun hc => ?_⟩
      have := h5.2
      rw [hc] at this
      simpa using this
    have hL' : ∀ k, k ∈ A ++ B ↔ k < n ∧ (listed.setIfInBounds i true).getD k true = false := by
      intro k
      by_cases hki : k = i
      · subst hki
        have hlt : k < listed.size := by rw [inv.size]; omega
        have hnA : k ∉ A := fun hk => by have := hpair.2.2 k hk k List.mem_cons_self; omega
        have hnB : k ∉ B := fun hk => by have := (List.pairwise_cons.1 hpair.2.1).1 k hk; omega
        simp [hnA, hnB, hlt]
      · rw [getD_set_ne true (Ne.symm hki), ← hL k]
        simp [hki]
    have hp' : (A ++ B).Pairwise (· < ·) := List.pairwise_append.2 ⟨hpair.1, (List.pairwise_cons.1 hpair.2.1).2, fun x hx y hy => hpair.2.2 x hx y (List.mem_cons_of_mem _ hy)⟩
    have hm' : (A ++ B).length = m := by simp only [List.length_append, List.length_cons] at hm ⊢; omega
    have inv' := inv.set hi hin
    have go : ∀ (a' : Act) (w' : World) (F' : World → Prop) (N' : List Nat), Known W S F' N' w' → wpW P W S ops T (A.map pr ++ B.map pr) F' N' a' → wpAny P .any ops Q (m + g) (listed.setIfInBounds i true) a' w' :=
      fun a' w' F' N' h1 h4 => ih (A ++ B) _ a' w' F' N' hm' inv' hL' hp' h1 (by rw [List.map_append]; exact h4)
    rw [List.map_append, List.map_cons, hpr i oi' hoi] at h
    have put_ok : ∀ v w', (want ops oi' a = true → oi'.wp P a w (wpAny P .any ops Q (m + g) (listed.setIfInBounds i true)) Q) → (want ops oi' a = false → wpAny P .any ops Q (m + g) (listed.setIfInBounds i true) (a.put oi'.dst v) w') → v = undef → w' = w → wpOp P ops Q i (wpAny P .any ops Q (m + g) (listed.setIfInBounds i true)) a w := by
      intro v w' h1 h2 hv hw'
      subst hv; subst hw'
      unfold wpOp
      simp only [hoi]
      cases hq : Region.wanted oi' (yielded ops a.tmps) with
      | true => rw [if_pos rfl]; exact .inl (h1 hq)
      | false => rw [if_neg (by decide)]; exact h2 hq
    refine put_ok undef w ?_ ?_ rfl rfl
    · intro hq
      cases hk : kd i with
      | flo =>
        rw [hk] at h
        obtain ⟨v, hv⟩ := ex_flo (A.map pr) (fun p hp => (hAp p hp).1) F N a w hkn h
        have h2 := rem_flo (A.map pr) (fun p hp => (hAp p hp).1) F N a hv h
        unfold Oper.wp
        rcases hv with ⟨_, hv⟩ | ⟨e, _⟩
        · rcases hv w hkn.gr with he | ⟨he, rfl⟩
          · rw [he]; exact go _ w F N hkn h2
          · rw [he]; exact go _ w F N hkn h2
        · rw [hq] at e; cases e
      | new X =>
        rw [hk] at h
        have hv := ex_new (A.map pr) (fun p hp => (hAp p hp).1) F N a w hkn h
        have h2 := rem_new hTN hS hkn.gr.size (A.map pr) (fun p hp => (hAp p hp).1) F N a hkn.fresh h
        unfold Oper.wp
        rw [hv.2 w hkn.gr]
        exact go _ (w.alloc X) _ _ (hkn.new X) h2
      | cha =>
        rw [hk] at h hAp
        rcases rem_cha (A.map pr) (fun p hp => ⟨(hAp p hp).1, (hAp p hp).2 rfl⟩) F N a h w hkn.gr hkn.fa with ⟨_, hs⟩ | ⟨e, _⟩
        · exact hs.wp fun v w' ⟨hgr, F', M, hs', hF', hl, h'⟩ => go _ w' F' _ (hkn.call hgr hs' hF' hl) h'
        · rw [hq] at e; cases e
    · intro hq
      cases hk : kd i with
      | flo =>
        rw [hk] at h
        obtain ⟨v, hv⟩ := ex_flo (A.map pr) (fun p hp => (hAp p hp).1) F N a w hkn h
        have h2 := rem_flo (A.map pr) (fun p hp => (hAp p hp).1) F N a hv h
        rcases hv with ⟨e, _⟩ | ⟨_, rfl⟩
        · rw [hq] at e; cases e
        · exact go _ w F N hkn h2
      | new X =>
        rw [hk] at h
        have hv := ex_new (A.map pr) (fun p hp => (hAp p hp).1) F N a w hkn h
        rw [hv.1] at hq; cases hq
      | cha =>
        rw [hk] at h hAp
        rcases rem_cha (A.map pr) (fun p hp => ⟨(hAp p hp).1, (hAp p hp).2 rfl⟩) F N a h w hkn.gr hkn.fa with ⟨e, _⟩ | ⟨_, hgr, F', M, hs', hF', hl, h'⟩
        · rw [hq] at e; cases e
        · exact go _ w F' _ (hkn.call hgr hs' hF' hl) h'

theorem region_of_tail {id : Nat} {a : Act} {w : World} {F0 : World → Prop} (hF0s : Stb F0) (hF0 : F0 w.drew) (hS : ∀ k ∈ S, k < w.heap.size) {l : List Oper} {T : (World → Prop) → Act → Prop} (n : Nat) (ks : List Kd) (hm : P.follows .mixedOrders = true) (hB : mixW l.toArray n (fun i => ks.getD i .flo) = true) (hk : ks.length = n)
    (hT : ∀ F a w', T F a → GrS S w.drew w' → F w' → wpAny P .any l.toArray Q (l.length - n) (canonL n (l.length - n)) a w')
    (h : wpW P w.drew S l.toArray (fun F _ a' => T F a') ((l.take n).zip ks) F0 [] a) : (Code.region id l.toArray true).wp P Q a w := by
  have hn : n < l.length := by
    simp only [mixW, mixR, Bool.and_eq_true, decide_eq_true_eq] at hB
    simpa using hB.1.1.2
  refine wp_region_any hm ?_
  have inv0 : HeadInv .any l.toArray n (Array.replicate l.toArray.size false) :=
    ⟨by simp, fun j oj _ hl => (by rw [getD_replicate_false] at hl; cases hl), fun t _ ht => getD_in (by simpa using ht) (getD_replicate_false _ _)⟩
  have hzip : (l.take n).zip ks = (List.range n).map (fun i => (l.getD i default, ks.getD i .flo)) := by
    refine List.ext_getElem (by simp [hk]; omega) fun i h1 h2 => ?_
    have hi : i < n := by simpa using h2
    simp [List.getD, List.getElem?_eq_getElem (show i < l.length by omega), List.getElem?_eq_getElem (show i < ks.length by omega)]
  rw [hzip] at h
  have := anyG (P := P) (Q := Q) (W := w.drew) (S := S) hS (g := l.length - n) hB (by simp; omega) (fun i => (l.getD i default, ks.getD i .flo))
    (fun i o ho => by simp only [List.getElem?_toArray] at ho; simp [List.getD, ho])
    (fun F N N' a' _ h => h)
    (fun F N a' w' hT' hw hF => hT F a' w' hT' hw hF)
    n (List.range n) (Array.replicate l.toArray.size false) a w.drew F0 [] (by simp) inv0
    (fun i => by
      rw [List.mem_range]
      exact ⟨fun hi => ⟨hi, getD_in (by simp; omega) (getD_replicate_false _ _)⟩, fun h => h.1⟩)
    List.pairwise_lt_range ⟨hF0s, GrS.refl _ _, hF0, (fun b hb => by cases hb), fun b hb => by cases hb⟩ h
  rw [show n + (l.length - n) = l.toArray.size by simp; omega] at this
  exact this
/-- **ONE WALK IN THE ORDER OF THE TEXT**: n operations, each of its kind; then the tail, which keeps its order. -/
theorem wp_region_mix {id : Nat} {a : Act} {w : World} {l : List Oper} (n : Nat) (ks : List Kd) (hm : P.follows .mixedOrders = true) (hB : (mixW l.toArray n (fun i => ks.getD i .flo) && Region.seqB .any l.toArray (l.length - n) n (canonL n (l.length - n))) = true) (hk : ks.length = n)
    (h : wpW P w.drew [] l.toArray (fun F _ a' => ∀ w', Gr w.drew w' → F w' → wpList P l.toArray Q (l.drop n) a' w') ((l.take n).zip ks) (fun _ => True) [] a) : (Code.region id l.toArray true).wp P Q a w := by
  rw [Bool.and_eq_true] at hB
  refine region_of_tail (S := []) (F0 := fun _ => True) Stb.tt trivial (fun _ h => by cases h) (T := fun F a' => ∀ w', Gr w.drew w' → F w' → wpList P l.toArray Q (l.drop n) a' w') n ks hm hB.1 hk (fun F a' w' hT hw hF => ?_) h
  have hdl : (l.drop n).length = l.length - n := by simp
  have := wpAny_of_seq (md := .any) (Q' := Q) (l.drop n) n (canonL n (l.length - n)) a' w' (fun j => by simp [List.getElem?_drop]) (by rw [hdl]; exact hB.2) (hT w' hw.toGr hF)
  rwa [hdl] at this
/-- .. where a store into a block of S may stand among the operations. -/
theorem wp_region_mixS {id : Nat} {a : Act} {w : World} {l : List Oper} (S : List Nat) (F0 : World → Prop) (hF0s : Stb F0) (hF0 : F0 w.drew) (hS : ∀ k ∈ S, k < w.heap.size) (n : Nat) (ks : List Kd) (hm : P.follows .mixedOrders = true) (hB : (mixW l.toArray n (fun i => ks.getD i .flo) && Region.seqB .any l.toArray (l.length - n) n (canonL n (l.length - n))) = true) (hk : ks.length = n)
    (h : wpW P w.drew S l.toArray (fun F _ a' => ∀ w', GrS S w.drew w' → F w' → wpList P l.toArray Q (l.drop n) a' w') ((l.take n).zip ks) F0 [] a) : (Code.region id l.toArray true).wp P Q a w := by
  rw [Bool.and_eq_true] at hB
  refine region_of_tail (S := S) (F0 := F0) hF0s hF0 hS (T := fun F a' => ∀ w', GrS S w.drew w' → F w' → wpList P l.toArray Q (l.drop n) a' w') n ks hm hB.1 hk (fun F a' w' hT hw hF => ?_) h
  have hdl : (l.drop n).length = l.length - n := by simp
  have := wpAny_of_seq (md := .any) (Q' := Q) (l.drop n) n (canonL n (l.length - n)) a' w' (fun j => by simp [List.getElem?_drop]) (by rw [hdl]; exact hB.2) (hT w' hw hF)
  rwa [hdl] at this
end
section
variable {P : Program} {W : World} {S : List Nat} {ops : Array Oper} {T : (World → Prop) → List Nat → Act → Prop} {L : List (Oper × Kd)} {F : World → Prop} {N : List Nat} {a : Act} {o : Oper} {k : Kd}
/-- A step that is wanted: as in the walk without guards, with what follows as its tail. -/
theorem yes (hw : want ops o a = true) (h : wpG P W S (fun F N a => wpW P W S ops T L F N a) [(o, k)] F N a) : wpW P W S ops T ((o, k) :: L) F N a := by
  cases k with
  | flo =>
    obtain ⟨v, h1, h2⟩ := h
    exact ⟨v, .inl ⟨hw, h1⟩, h2⟩
  | new X => exact ⟨⟨hw, h.1⟩, h.2⟩
  | cha => exact fun w hg hF => .inl ⟨hw, h w hg hF⟩
/-- Steps that are not. -/
theorem no (hw : want ops o a = false) (h : wpW P W S ops T L F N (a.put o.dst undef)) : wpW P W S ops T ((o, .flo) :: L) F N a := ⟨undef, .inr ⟨hw, rfl⟩, h⟩
theorem noC (hw : want ops o a = false) (hF : Stb F) (h : wpW P W S ops T L F N (a.put o.dst undef)) : wpW P W S ops T ((o, .cha) :: L) F N a :=
  fun w _ hFw => .inr ⟨hw, (GrS.refl S w).d, F, [], hF, hFw, (fun _ hb => by cases hb), h⟩
theorem nil (h : T F N a) : wpW P W S ops T [] F N a := h
end
end Gd
end Go.Proofs.YtjednaendedpdaaGreat
namespace Go.Proofs.YtjednaendedpdaaGreat
set_option maxRecDepth 100000
set_option linter.unusedVariables false
open Go Go.RowKit

theorem same0_any (a b : Option Addr) (c d : Nat) (w : World) : Calls Tryz.prog 23 #[.slice a 0 c, .slice b 0 d] w fun e w' => e = .returned (.bool true) ∧ w = w' := by
  go_enter Tryz.func23, Tryz.ntmps23
  go_wp2_with fail
  go_loopw [5] (fun i wr => i = .int .i64 0 ∧ w = wr) (fun _ _ => 0)
  case atStart => exact ⟨rfl, rfl⟩
  case round =>
    obtain ⟨rfl, rfl⟩ := hrel
    go_wp2_with fail
    go_ret
    exact ⟨rfl, rfl⟩
/-- Rows of strings compared, empty ones too. -/
theorem samerow_any (rs : List (List UInt8)) (u v : Value) (w : World) (b1 b2 : Nat) (hl : rs.length ≤ 1000) (h1 : w.ownsRow b1 9 1 u rs.length (rs.map fun r => .string ⟨r.toArray⟩)) (h2 : w.ownsRow b2 9 1 v rs.length (rs.map fun r => .string ⟨r.toArray⟩)) :
    Calls Tryz.prog 23 #[u, v] w fun e w' => e = .returned (.bool true) ∧ Below w.heap.size w w' := by
  obtain ⟨a, c, rfl⟩ := own_sl h1
  obtain ⟨b, d, rfl⟩ := own_sl h2
  cases rs with
  | nil => exact (same0_any a b c d w).mono fun e w' ⟨he, hw⟩ => ⟨he, hw ▸ Below.refl _ _⟩
  | cons r rs =>
    obtain ⟨ga, ca, ha⟩ := own_form h1 (by simp)
    obtain ⟨gb, cb, hb⟩ := own_form h2 (by simp)
    obtain ⟨X, hX⟩ : ∃ X : List ByteArray, X = (r :: rs).map fun r => ⟨r.toArray⟩ := ⟨_, rfl⟩
    have hXl : X.length = (r :: rs).length := by rw [hX, List.length_map]
    have hc : ∀ {g cc : Nat} {base : Nat} (h : w.ownsRow base 9 1 (.slice (some ⟨g, 0, none⟩) (r :: rs).length cc) (r :: rs).length ((r :: rs).map fun r => .string ⟨r.toArray⟩)), ∀ (j : Nat) (u : ByteArray), X[j]? = some u → w.cell? ⟨g, j, none⟩ = some (.string u) := fun h j u hu => by
      have hj := (List.getElem?_eq_some_iff.1 hu).1
      rw [h.cellAt j (by omega)]
      rw [hX, List.getElem?_map] at hu
      rw [List.getElem?_map]
      cases hr : (r :: rs)[j]? with
      | none => rw [hr] at hu; cases hu
      | some x => rw [hr] at hu; cases hu; rfl
    have hs := same_any (.slice a (r :: rs).length c) (.slice b (r :: rs).length d) X X (by rw [hXl]; omega) (by rw [hXl]; omega) w ga ca gb cb (by rw [hXl]; exact ha) (by rw [hXl]; exact hb) (hc (ha ▸ h1)) (hc (hb ▸ h2))
    rw [decide_eq_true rfl] at hs
    exact hs.mono fun e w' ⟨he, m, hm⟩ => ⟨he, hm ▸ bdrewN (Below.refl _ _) m⟩
theorem recs_few (s : List UInt8) : ∀ (f p : Nat), (recsFrom s f p).length ≤ f
  | 0, p => Nat.le_refl _
  | f + 1, p => by
    rw [recsFrom]
    split
    · split
      · have := recs_few s f (p + 1); omega
      · have := recs_few s f (p + (recL s p).2); rw [List.length_cons]; omega
    · simp
theorem lrecs_in {s : FS} {F : Nat} {l : LS} {x : Nat × Nat} (hx : x ∈ l.segs) (hd : s.dead = false) (hld : l.dead = false) : ∃ y, s.lrecs F l (x.2 : Int) = .ok (recsL (s.blk F y)) := by
  unfold FS.lrecs
  cases hf : l.segs.find? (fun y => (y.2 : Int) == (x.2 : Int)) with
  | none => rw [List.find?_eq_none] at hf; exact absurd (by simp) (hf x hx)
  | some y => exact ⟨y.1, by dsimp only; rw [hd, hld]; rfl⟩
theorem lrecs_zero {s : FS} {F : Nat} {l : LS} (h : ∀ x ∈ l.segs, x.2 ≠ 0) : s.lrecs F l 0 = .error 140 := by
  unfold FS.lrecs
  have : l.segs.find? (fun y => (y.2 : Int) == 0) = none := by
    rw [List.find?_eq_none]; intro x hx; rw [beq_iff_eq]; have := h x hx; omega
  rw [this]
theorem segN_cell (l : List (Nat × Nat)) (j : Nat) (x : Nat × Nat) (h : l[j]? = some x) : (segN l)[j]? = some (.int .i64 (x.2 : Int)) := by
  unfold segN; rw [List.getElem?_map, h]; rfl
set_option maxHeartbeats 4000000 in
theorem holds_any (g q p bb cb h q2 p2 bb2 cb2 : Nat) (B : Nat) (v v2 : Value) (s : FS) (l : LS) (w : World) (hl : LgS w (1 : Nat) (B : Nat) g q p bb cb v s l) (hl2 : RLgS w (1 : Nat) (B : Nat) h q2 p2 bb2 cb2 v2 s l) (hk : l.Ok B) (hB : B ≤ 12) (hd : s.dead = false) (hld : l.dead = false) (hz : ∀ x ∈ l.segs, x.2 ≠ 0) :
    Calls Tryz.prog 14 #[.pointer (some ⟨g, 0, none⟩), .pointer (some ⟨h, 0, none⟩)] w fun e w' => e = .returned (.bool true) ∧ Below w.heap.size w w' := by
  obtain ⟨n, hn⟩ : ∃ n, n = l.segs.length := ⟨_, rfl⟩
  have HN := Box.mk hn; have HOK := Box.mk hk; have HD := Box.mk hd; have HLD := Box.mk hld; have HB := Box.mk hB
  have HNE := Box.mk hk.ne
  have HN12 : Box (1 ≤ n ∧ n ≤ 12) := ⟨by
    have h1 := List.length_pos_iff.2 hk.ne; have h2 := hk.few; omega⟩
  have HL := Box.mk hl; have HL2 := Box.mk hl2
  have NU := Box.mk (rlnums_any h q2 v2 l w hl2.lg hk.ne (by have := hk.few; omega))
  rw [← hn] at NU
  have S8 := Box.mk (fun (ga ca gb cb9 : Nat) (w1 : World) (h1 : w1.ownsRow 0 3 1 (.slice (some ⟨ga, 0, none⟩) n ca) n (segN l.segs)) (h2 : w1.ownsRow 0 3 1 (.slice (some ⟨gb, 0, none⟩) n cb9) n (segN l.segs)) => by
    have hc : ∀ {g cc : Nat} (h : w1.ownsRow 0 3 1 (.slice (some ⟨g, 0, none⟩) n cc) n (segN l.segs)), ∀ (j : Nat) (u : Int), (l.segs.map fun x => (x.2 : Int))[j]? = some u → w1.cell? ⟨g, j, none⟩ = some (.int .i64 u) := fun h j u hu => by
      have hj := (List.getElem?_eq_some_iff.1 hu).1
      rw [List.length_map, ← hn] at hj
      rw [h.cellAt j (by omega)]
      rw [List.getElem?_map] at hu
      cases hr : l.segs[j]? with
      | none => rw [hr] at hu; cases hu
      | some x => rw [hr] at hu; cases hu; exact segN_cell _ _ _ hr
    have hs := same8_any ga ca gb cb9 (l.segs.map fun x => (x.2 : Int)) (l.segs.map fun x => (x.2 : Int)) (by rw [List.length_map]; have := hk.few; omega) (by rw [List.length_map]; have := hk.few; omega) w1 (hc h1) (hc h2)
    rw [decide_eq_true rfl, List.length_map, ← hn] at hs
    exact hs)
  have HEF : Box ((((B - l.segs.length : Nat) : Int) != ((B - l.segs.length : Nat) : Int)) = false) := ⟨by simp⟩
  have HER : Box (((((s.lroom 1 l : Nat) : Int)) != ((s.lroom 1 l : Nat) : Int)) = false) := ⟨by simp⟩
  have DD := Box.mk (fun (w1 : World) (hh : LgS w1 (1 : Nat) (B : Nat) g q p bb cb v s l) => by
    have := ldead_any g q v l w1 hh.lg
    rw [hld] at this
    exact this)
  have RC1 := Box.mk (fun (num : Int) (w1 : World) (hh : LgS w1 (1 : Nat) (B : Nat) g q p bb cb v s l) => lrecords_any g q p bb cb 1 B v s l num w1 hh hk)
  have RC2 := Box.mk (fun (num : Int) (w1 : World) (hh : RLgS w1 (1 : Nat) (B : Nat) h q2 p2 bb2 cb2 v2 s l) => rlrecords_any h q2 p2 bb2 cb2 1 B v2 s l num w1 hh hk hd hld)
  have RIN := Box.mk (fun (x : Nat × Nat) (hx : x ∈ l.segs) => lrecs_in (F := 1) hx hd hld)
  have RZ := Box.mk (lrecs_zero (s := s) (F := 1) hz)
  clear hn hk hd hld hz hl hl2 hB
  go_enter Tryz.func14, Tryz.ntmps14
  go_wp2_with fail
  refine NU.out.mono ?_
  rintro e w1 ⟨u0, rfl, hown, hb⟩
  obtain ⟨gb, cb9, rfl⟩ := own_form hown (by have := HN12.out; omega)
  have B1 := Box.mk hb
  have F0H := Box.mk (show LgS w1.drew (1 : Nat) (B : Nat) g q p bb cb v s l ∧ RLgS w1.drew (1 : Nat) (B : Nat) h q2 p2 bb2 cb2 v2 s l ∧ w1.drew.ownsRow 0 3 1 (.slice (some ⟨gb, 0, none⟩) n cb9) n (segN l.segs) from ⟨HL.out.keep (Upd.of_below hb).drew, HL2.out.keep (Upd.of_below hb).drew, own_keep (own_baseL hown (Nat.zero_le _)) fun _ _ _ => rfl⟩)
  have R1 := Box.mk (show w1.drew.heap[h]? = some (.cells #[.pointer (some ⟨q2, 0, none⟩), v2, .bool l.dead] 82 (0, 0)) from F0H.out.2.1.lg.row)
  clear hown hb NU
  go_upto_region 2 with (fail)
  refine Gd.wp_region_mixS [] (fun w => LgS w (1 : Nat) (B : Nat) g q p bb cb v s l ∧ RLgS w (1 : Nat) (B : Nat) h q2 p2 bb2 cb2 v2 s l ∧ w.ownsRow 0 3 1 (.slice (some ⟨gb, 0, none⟩) n cb9) n (segN l.segs)) (fun w w' hg h => ⟨h.1.keep hg.upd, h.2.1.keep hg.upd, own_belowL h.2.2 hg⟩) (F0H.out) (fun _ h => by cases h) 27 [.flo, .cha, .flo, .cha, .flo, .flo, .flo, .cha, .flo, .cha, .flo, .flo, .flo, .flo, .cha, .flo, .cha, .flo, .flo, .flo, .flo, .cha, .flo, .flo, .flo, .flo, .flo] (by kernel_rfl) (by kernel_rfl) rfl ?_
  simp only [List.take, List.zip, List.zipWith]
  try go_frame
  refine Gd.yes (by kernel_rfl) (gm_move (.tmp 0) (.inl rfl) (.pointer (some ⟨g, 0, none⟩)) rfl (gm_nil ?_))
  try go_frame
  refine Gd.yes (by kernel_rfl) (gm_callF [.pointer (some ⟨g, 0, none⟩)] (by kernel_rfl) rfl rfl (fun w1 hw1 hF1 => (lsegs_any g q p bb cb (1 : Nat) (B : Nat) v s l w1 hF1.1 HNE.out (by have := HN12.out; have := HN.out; omega)).mono ?_))
  rintro e w2 ⟨u, rfl, hown, hl, hb⟩
  obtain ⟨ga, ca, rfl⟩ := own_form hown (by have := HN12.out; have := HN.out; omega)
  rw [← HN.out] at hown ⊢
  refine ⟨_, rfl, hb, (fun w => (LgS w (1 : Nat) (B : Nat) g q p bb cb v s l ∧ RLgS w (1 : Nat) (B : Nat) h q2 p2 bb2 cb2 v2 s l ∧ w.ownsRow 0 3 1 (.slice (some ⟨gb, 0, none⟩) n cb9) n (segN l.segs)) ∧ w.ownsRow 0 3 1 (.slice (some ⟨ga, 0, none⟩) n ca) n (segN l.segs)), [], (fun w w' hg h => ⟨⟨h.1.1.keep hg.upd, h.1.2.1.keep hg.upd, own_belowL h.1.2.2 hg⟩, own_belowL h.2 hg⟩), ⟨⟨hl, hF1.2.1.keep (Upd.of_below hb), own_belowL hF1.2.2 hb⟩, own_baseL hown (Nat.zero_le _)⟩, (fun _ h => by cases h), gm_nil ?_⟩
  clear hown hl hb hF1 hw1 w1 w2
  try go_frame
  refine Gd.yes (by kernel_rfl) (gm_move (.tmp 5) (.inl rfl) (.slice (some ⟨gb, 0, none⟩) n cb9) rfl (gm_nil ?_))
  try go_frame
  refine Gd.yes (by kernel_rfl) (gm_call [.slice (some ⟨ga, 0, none⟩) n ca, .slice (some ⟨gb, 0, none⟩) n cb9] (by kernel_rfl) rfl rfl ((fun w w' hg h => ⟨⟨h.1.1.keep hg.upd, h.1.2.1.keep hg.upd, own_belowL h.1.2.2 hg⟩, own_belowL h.2 hg⟩)) (fun w1 hw1 hF1 => (S8.out ga ca gb cb9 w1 hF1.2 hF1.1.2.2).mono ?_))
  rintro e w2 ⟨rfl, m, rfl⟩
  refine ⟨_, rfl, bdrewN (Below.refl _ _) m, gm_nil ?_⟩
  try go_frame
  refine Gd.yes (by kernel_rfl) (gm_flo (.bool false) (fun w1 hw1 => ?_) (gm_nil ?_))
  · go_simp
  try go_frame
  refine Gd.yes (by kernel_rfl) (gm_move (.tmp 19) (.inl rfl) (.bool false) rfl (gm_nil ?_))
  try go_frame
  refine Gd.yes (by kernel_rfl) (gm_move (.tmp 0) (.inl rfl) (.pointer (some ⟨g, 0, none⟩)) rfl (gm_nil ?_))
  try go_frame
  refine Gd.yes (by kernel_rfl) (gm_call [.pointer (some ⟨g, 0, none⟩)] (by kernel_rfl) rfl rfl ((fun w w' hg h => ⟨⟨h.1.1.keep hg.upd, h.1.2.1.keep hg.upd, own_belowL h.1.2.2 hg⟩, own_belowL h.2 hg⟩)) (fun w1 hw1 hF1 => (lfree_any g q p bb cb (1 : Nat) B v s l w1 hF1.1.1 HOK.out.few).mono ?_))
  rintro e w2 ⟨rfl, _, hb⟩
  refine ⟨_, rfl, Upd.below9 hb, gm_nil ?_⟩
  try go_frame
  refine Gd.yes (by kernel_rfl) (gm_move (.tmp 1) (.inl rfl) (.pointer (some ⟨h, 0, none⟩)) rfl (gm_nil ?_))
  try go_frame
  refine Gd.yes (by kernel_rfl) (gm_call [.pointer (some ⟨h, 0, none⟩)] (by kernel_rfl) rfl rfl ((fun w w' hg h => ⟨⟨h.1.1.keep hg.upd, h.1.2.1.keep hg.upd, own_belowL h.1.2.2 hg⟩, own_belowL h.2 hg⟩)) (fun w1 hw1 hF1 => (rlfree_any h q2 p2 (1 : Nat) B v2 l w1 hF1.1.2.1.lg hF1.1.2.1.pa HOK.out.few (by have := HB.out; omega)).mono ?_))
  rintro e w2 ⟨rfl, hb⟩
  refine ⟨_, rfl, Upd.below9 hb, gm_nil ?_⟩
  try go_frame
  refine Gd.yes (by kernel_rfl) (gm_flo (.bool false) (fun w1 hw1 => ?_) (gm_nil ?_))
  · have e9 := HEF.out
    go_simp
  try go_frame
  refine Gd.yes (by kernel_rfl) (gm_flo (.bool false) (fun w1 hw1 => ?_) (gm_nil ?_))
  · go_simp
  try go_frame
  refine Gd.yes (by kernel_rfl) (gm_move (.tmp 26) (.inl rfl) (.bool false) rfl (gm_nil ?_))
  try go_frame
  refine Gd.yes (by kernel_rfl) (gm_move (.tmp 0) (.inl rfl) (.pointer (some ⟨g, 0, none⟩)) rfl (gm_nil ?_))
  try go_frame
  refine Gd.yes (by kernel_rfl) (gm_call [.pointer (some ⟨g, 0, none⟩)] (by kernel_rfl) rfl rfl ((fun w w' hg h => ⟨⟨h.1.1.keep hg.upd, h.1.2.1.keep hg.upd, own_belowL h.1.2.2 hg⟩, own_belowL h.2 hg⟩)) (fun w1 hw1 hF1 => (lroom_any g q p bb cb 1 B v s l w1 hF1.1.1 HOK.out).mono ?_))
  rintro e w2 ⟨rfl, _, hb⟩
  refine ⟨_, rfl, Upd.below9 hb, gm_nil ?_⟩
  try go_frame
  refine Gd.yes (by kernel_rfl) (gm_move (.tmp 1) (.inl rfl) (.pointer (some ⟨h, 0, none⟩)) rfl (gm_nil ?_))
  try go_frame
  refine Gd.yes (by kernel_rfl) (gm_call [.pointer (some ⟨h, 0, none⟩)] (by kernel_rfl) rfl rfl ((fun w w' hg h => ⟨⟨h.1.1.keep hg.upd, h.1.2.1.keep hg.upd, own_belowL h.1.2.2 hg⟩, own_belowL h.2 hg⟩)) (fun w1 hw1 hF1 => (rlroom_any h q2 p2 bb2 cb2 1 B v2 s l w1 hF1.1.2.1 HOK.out HD.out).mono ?_))
  rintro e w2 ⟨rfl, _, hb⟩
  refine ⟨_, rfl, Upd.below9 hb, gm_nil ?_⟩
  try go_frame
  refine Gd.yes (by kernel_rfl) (gm_flo (.bool false) (fun w1 hw1 => ?_) (gm_nil ?_))
  · have e9 := HER.out
    go_simp
  try go_frame
  refine Gd.yes (by kernel_rfl) (gm_flo (.bool false) (fun w1 hw1 => ?_) (gm_nil ?_))
  · go_simp
  try go_frame
  refine Gd.yes (by kernel_rfl) (gm_move (.tmp 33) (.inl rfl) (.bool false) rfl (gm_nil ?_))
  try go_frame
  refine Gd.yes (by kernel_rfl) (gm_move (.tmp 0) (.inl rfl) (.pointer (some ⟨g, 0, none⟩)) rfl (gm_nil ?_))
  try go_frame
  refine Gd.yes (by kernel_rfl) (gm_call [.pointer (some ⟨g, 0, none⟩)] (by kernel_rfl) rfl rfl ((fun w w' hg h => ⟨⟨h.1.1.keep hg.upd, h.1.2.1.keep hg.upd, own_belowL h.1.2.2 hg⟩, own_belowL h.2 hg⟩)) (fun w1 hw1 hF1 => (DD.out w1 hF1.1.1).mono ?_))
  rintro e w2 ⟨rfl, rfl⟩
  refine ⟨_, rfl, Gr.refl _, gm_nil ?_⟩
  try go_frame
  refine Gd.yes (by kernel_rfl) (gm_move (.tmp 1) (.inl rfl) (.pointer (some ⟨h, 0, none⟩)) rfl (gm_nil ?_))
  try go_frame
  refine Gd.yes (by kernel_rfl) (gm_flo (.pointer (some ⟨h, 0, none⟩)) (fun w1 hw1 => ?_) (gm_nil ?_))
  · go_simp
  try go_frame
  refine Gd.yes (by kernel_rfl) (gm_flo (.pointer (some ⟨h, 2, none⟩)) (fun w1 hw1 => ?_) (gm_nil ?_))
  · go_simp
  try go_frame
  refine Gd.yes (by kernel_rfl) (gm_flo (.bool false) (fun w1 hw1 => ?_) (gm_nil ?_))
  · have e1 : w1.cell? ⟨h, 2, none⟩ = some (.bool l.dead) := (cell_of_row _ _ _ _ _ _ (hw1.at (by simp) R1.out)).trans rfl
    have e2 := HLD.out
    go_simp
  try go_frame
  refine Gd.yes (by kernel_rfl) (gm_flo (.bool false) (fun w1 hw1 => ?_) (gm_nil ?_))
  · go_simp
  try go_frame
  refine Gd.nil ?_
  intro w9 hw9 hF9
  simp only [List.drop]
  try go_frame
  have BE := Box.mk (show Below w.heap.size w w9 from B1.out.trans (((Below.refl _ _).drew.trans (Upd.below9 hw9.upd)).mono B1.out.size))
  have LH := Box.mk hF9.1
  clear hF9 hw9 F0H R1 S8 DD
  go_wp2_with fail
  go_loopw [6] (fun i wr => ∃ j : Nat, j ≤ n ∧ i = .int .i64 (j : Nat) ∧ Below w9.heap.size w9 wr) (fun i _ => n - (intOf i).toNat)
  case atStart => exact ⟨0, Nat.zero_le _, rfl, Below.refl _ _⟩
  case round =>
    obtain ⟨j, hj, rfl, hb⟩ := hrel
    have HBR := Box.mk hb
    have hn12 := HN12.out
    clear hb
    by_cases hlt : j < n
    · have hjI : (j : Int) < (n : Int) := by omega
      obtain ⟨x, hx⟩ : ∃ x, l.segs[j]? = some x := ⟨_, List.getElem?_eq_getElem (by rw [← HN.out]; exact hlt)⟩
      obtain ⟨y, hy⟩ := RIN.out x (List.mem_of_getElem? hx)
      have c0 : wr.cell? ⟨gb, j, none⟩ = some (.int .i64 (x.2 : Int)) := (HBR.out.cell (p := ⟨gb, j, none⟩) (World.ownsRow.lt LH.out.2.2 gb rfl).2).trans ((LH.out.2.2.cellAt j (by omega)).trans (segN_cell _ _ _ hx))
      obtain ⟨num, hnum⟩ : ∃ m : Int, m = (x.2 : Int) := ⟨_, rfl⟩
      rw [← hnum] at c0 hy
      have R1 := Box.mk (RC1.out num wr (LH.out.1.keep (Upd.of_below HBR.out)))
      have R2 := Box.mk (fun w1 (hb : Below w9.heap.size w9 w1) => RC2.out num w1 (LH.out.2.1.keep (Upd.of_below hb)))
      rw [hy] at R1 R2
      unfold LRec at R1 R2
      dsimp only at R1 R2
      have RF : Box ((recsL (s.blk 1 y)).length ≤ 8) := ⟨recs_few _ 8 1⟩
      generalize recsL (s.blk 1 y) = rs at R1 R2 RF
      clear hx hy hnum
      go_wp2_with fail
      refine R1.out.mono ?_
      rintro e w2 ⟨⟨v1, rfl, ho1⟩, _, hb⟩
      have HB2 := Box.mk (HBR.out.trans (hb.mono HBR.out.size)); have O1 := Box.mk ho1
      have c1 := (hb.cell (p := ⟨gb, j, none⟩) (World.block_lt_of_cell? _ _ c0)).trans c0
      clear c0 hb ho1 R1 HBR
      go_wp2_with fail
      refine (R2.out _ HB2.out).mono ?_
      rintro e w3 ⟨⟨v3, rfl, ho2⟩, hb⟩
      have HB3 := Box.mk (HB2.out.trans (hb.mono HB2.out.size))
      have SR := Box.mk (samerow_any rs v1 v3 w3 _ _ (by have := RF.out; omega) (own_belowL O1.out hb) ho2)
      clear c1 hb ho2 R2 HB2 O1
      go_wp2_with fail
      refine SR.out.mono ?_
      rintro e w4 ⟨rfl, hb⟩
      have HB4 := Box.mk (HB3.out.trans (hb.mono HB3.out.size))
      clear hb SR HB3
      go_wp2_with fail
      exact ⟨⟨j + 1, hlt, by go_num, HB4.out⟩, by simp [intOf]; omega⟩
    · have hjI : ¬ (j : Int) < (n : Int) := by omega
      have R1 := Box.mk (RC1.out 0 wr (LH.out.1.keep (Upd.of_below HBR.out)))
      rw [RZ.out] at R1
      unfold LRec at R1
      dsimp only at R1
      clear hlt
      go_wp2_with fail
      refine R1.out.mono ?_
      rintro e w2 ⟨rfl, _, hb⟩
      have HB2 := Box.mk (BE.out.trans ((HBR.out.trans (hb.mono HBR.out.size)).mono BE.out.size))
      clear hb R1
      go_wp2_with fail
      go_ret
      exact ⟨rfl, HB2.out⟩
end Go.Proofs.YtjednaendedpdaaGreat
namespace Go.Proofs.YtjednaendedpdaaGreat
set_option maxRecDepth 100000
set_option linter.unusedVariables false
open Go Go.RowKit

/-- Where the blocks of a writer lie. -/
structure Spl (g q p bb cb : Nat) : Prop where
  hg : g ∉ [p, bb, cb]
  hq : q ∉ [p, bb, cb]
  hn : q ≠ g
theorem Spl.p {g q p bb cb : Nat} (h : Spl g q p bb cb) : p ∉ [g] ∧ bb ∉ [g] ∧ cb ∉ [g] ∧ q ∉ [g, p, bb, cb] := by
  obtain ⟨h1, h2, h3⟩ := h
  simp only [List.mem_cons, List.not_mem_nil, or_false, not_or] at h1 h2 ⊢
  exact ⟨fun e => h1.1 e.symm, fun e => h1.2.1 e.symm, fun e => h1.2.2 e.symm, h3, h2.1, h2.2.1, h2.2.2⟩
theorem upd_g {S : List Nat} {a b : World} {g p bb cb : Nat} (h : Upd S a b) (hs : ∀ k, k ∈ S → k ∈ [g, p, bb, cb]) : Upd [g, p, bb, cb] a b := h.mono hs
theorem drop_take_page (A : List UInt8) (z o : Nat) (ho : o = z % 64) (hz : z ≤ A.length) : ((A.take z).drop (64 * (z / 64))).length = o := by
  rw [List.length_drop, List.length_take]; omega
/-- Bytes that came behind others, in a page. -/
theorem page_more {page A : List UInt8} {m o n : Nat} (hp : page.length = 64) (h : page.take o = (A.drop m).take o) (ho : o + n ≤ 64) (hA : m + o + n ≤ A.length) :
    (page.take o ++ (A.drop (m + o)).take n ++ page.drop (o + n)).take (o + n) = (A.drop m).take (o + n) := by
  have hl : ((A.drop (m + o)).take n).length = n := by rw [List.length_take, List.length_drop]; omega
  have hl2 : (page.take o).length = o := by rw [List.length_take]; omega
  rw [List.take_append_of_le_length (by rw [List.length_append, hl, hl2]; exact Nat.le_refl _), List.take_of_length_le (by rw [List.length_append, hl, hl2]; exact Nat.le_refl _), h]
  rw [List.take_add, List.drop_drop]

end Go.Proofs.YtjednaendedpdaaGreat
namespace Go.Proofs.YtjednaendedpdaaGreat.Sha
set_option maxRecDepth 100000
set_option linter.unusedVariables false

/-- A word of W bits turned to the right. -/
def rotr (W x n : Nat) : Nat := x / 2 ^ n ||| x * 2 ^ (W - n) % 2 ^ W
/-- Three numbers of bits. -/
structure T3 where
  a : Nat
  b : Nat
  c : Nat
structure Sh where
  a : T3
  b : T3
  c : T3
  d : T3
def big (W x : Nat) (n : T3) : Nat := rotr W x n.a ^^^ rotr W x n.b ^^^ rotr W x n.c
def sml (W x : Nat) (n : T3) : Nat := rotr W x n.a ^^^ rotr W x n.b ^^^ x / 2 ^ n.c
def nextW (W : Nat) (s : Sh) (l : List Nat) : Nat :=
  (sml W (l.getD (l.length - 2) 0) s.d + l.getD (l.length - 7) 0 + sml W (l.getD (l.length - 15) 0) s.c + l.getD (l.length - 16) 0) % 2 ^ W
/-- n words more. -/
def sched (W : Nat) (s : Sh) : Nat → List Nat → List Nat
  | 0, l => l
  | n + 1, l => sched W s n (l ++ [nextW W s l])
/-- Eight words. -/
structure V8 where
  a : Nat
  b : Nat
  c : Nat
  d : Nat
  e : Nat
  f : Nat
  g : Nat
  h : Nat
def V8.list (v : V8) : List Nat := [v.a, v.b, v.c, v.d, v.e, v.f, v.g, v.h]
def one (W : Nat) (s : Sh) (v : V8) (k x : Nat) : Nat := (v.h + big W v.e s.b + ((v.e &&& v.f) ^^^ ((2 ^ W - 1 - v.e) &&& v.g)) + k + x) % 2 ^ W
def two (W : Nat) (s : Sh) (v : V8) : Nat := (big W v.a s.a + ((v.a &&& v.b) ^^^ (v.a &&& v.c) ^^^ (v.b &&& v.c))) % 2 ^ W
def round (W : Nat) (s : Sh) (v : V8) (k x : Nat) : V8 :=
  ⟨(one W s v k x + two W s v) % 2 ^ W, v.a, v.b, v.c, (v.d + one W s v k x) % 2 ^ W, v.e, v.f, v.g⟩
def rnds (W : Nat) (s : Sh) : List Nat → List Nat → V8 → V8
  | k :: ks, x :: xs, v => rnds W s ks xs (round W s v k x)
  | _, _, v => v
def plus (W : Nat) (v u : V8) : V8 :=
  ⟨(v.a + u.a) % 2 ^ W, (v.b + u.b) % 2 ^ W, (v.c + u.c) % 2 ^ W, (v.d + u.d) % 2 ^ W, (v.e + u.e) % 2 ^ W, (v.f + u.f) % 2 ^ W, (v.g + u.g) % 2 ^ W, (v.h + u.h) % 2 ^ W⟩
/-- A block's words. -/
def blk (W : Nat) (s : Sh) (ks : List Nat) (v : V8) (l : List Nat) : V8 :=
  plus W v (rnds W s ks (sched W s (ks.length - l.length) l) v)
/-- The number of bytes, the highest first. -/
def be (l : List UInt8) : Nat := l.foldl (fun x b => 256 * x + b.toNat) 0
/-- n bytes at a time, as numbers. -/
def wordsOf (n : Nat) : Nat → List UInt8 → List Nat
  | 0, _ => []
  | c + 1, l => be (l.take n) :: wordsOf n c (l.drop n)
/-- n bytes of a number, the highest first. -/
def bytesOf (x : Nat) : Nat → List UInt8
  | 0 => []
  | n + 1 => UInt8.ofNat (x / 256 ^ n) :: bytesOf x n

/-- A kind: bits of a word, shifts, constants, the words with which a sum begins. -/
structure Kd where
  W : Nat
  s : Sh
  ks : List Nat
  h : V8
def Kd.B (k : Kd) : Nat := 2 * k.W
def Kd.step (k : Kd) (v : V8) (l : List UInt8) : V8 := blk k.W k.s k.ks v (wordsOf (k.W / 8) 16 l)

/-- n blocks. -/
def run (B : Nat) (f : V8 → List UInt8 → V8) : Nat → V8 → List UInt8 → V8 × List UInt8
  | 0, v, l => (v, l)
  | n + 1, v, l => run B f n (f v (l.take B)) (l.drop B)
/-- All whole blocks. -/
def blks (B : Nat) (f : V8 → List UInt8 → V8) (v : V8) (l : List UInt8) : V8 × List UInt8 := run B f (l.length / B) v l
theorem run_add (B : Nat) (f : V8 → List UInt8 → V8) (m : Nat) : ∀ n v l, run B f (n + m) v l = run B f m (run B f n v l).1 (run B f n v l).2
  | 0, v, l => by rw [Nat.zero_add]; rfl
  | n + 1, v, l => by rw [show n + 1 + m = n + m + 1 from by omega, run, run_add B f m n]; rfl
theorem run_len (B : Nat) (f : V8 → List UInt8 → V8) : ∀ n v l, n * B ≤ l.length → (run B f n v l).2.length = l.length - n * B
  | 0, v, l, _ => by simp [run]
  | n + 1, v, l, h => by
    rw [Nat.add_mul, Nat.one_mul] at h
    rw [run, run_len B f n _ _ (by rw [List.length_drop]; omega), List.length_drop, Nat.add_mul, Nat.one_mul]; omega
theorem run_append (B : Nat) (f : V8 → List UInt8 → V8) (y : List UInt8) : ∀ n v l, n * B ≤ l.length → run B f n v (l ++ y) = ((run B f n v l).1, (run B f n v l).2 ++ y)
  | 0, v, l, _ => rfl
  | n + 1, v, l, h => by
    rw [Nat.add_mul, Nat.one_mul] at h
    rw [run, run, List.take_append_of_le_length (by omega), List.drop_append_of_le_length (by omega)]
    exact run_append B f y n _ _ (by rw [List.length_drop]; omega)
theorem blks_rest {B : Nat} (hB : 0 < B) (f : V8 → List UInt8 → V8) (v : V8) (l : List UInt8) : (blks B f v l).2.length = l.length % B := by
  unfold blks
  rw [run_len _ _ _ _ _ (Nat.div_mul_le_self _ _)]
  have := Nat.div_add_mod l.length B
  rw [Nat.mul_comm] at this; omega
/-- What is left goes ahead of what comes. -/
theorem blks_append {B : Nat} (hB : 0 < B) (f : V8 → List UInt8 → V8) (v : V8) (l y : List UInt8) :
    blks B f v (l ++ y) = blks B f (blks B f v l).1 ((blks B f v l).2 ++ y) := by
  have hr := blks_rest hB f v l
  have e : (l ++ y).length / B = l.length / B + ((blks B f v l).2 ++ y).length / B := by
    rw [List.length_append, List.length_append, hr]
    have := Nat.div_add_mod l.length B
    rw [show l.length + y.length = (l.length % B + y.length) + B * (l.length / B) from by omega, Nat.add_mul_div_left _ _ hB, Nat.add_comm]
  rw [show blks B f v (l ++ y) = run B f ((l ++ y).length / B) v (l ++ y) from rfl, e, run_add, run_append _ _ _ _ _ _ (Nat.div_mul_le_self _ _)]
  rfl

/-- What goes behind the bytes: so many zeros that the length comes last in a block. -/
def zeros (B n : Nat) : Nat := (B - B / 8 + B - (n + 1) % B) % B
def padB (B n : Nat) : List UInt8 := (128 : UInt8) :: (List.replicate (zeros B n) 0 ++ bytesOf (8 * n) (B / 8))
/-- The sum. -/
def Kd.sumV (k : Kd) (l : List UInt8) : V8 := (blks k.B k.step k.h (l ++ padB k.B l.length)).1
def Kd.sum (k : Kd) (l : List UInt8) : List UInt8 := (k.sumV l).list.flatMap fun x => bytesOf x (k.W / 8)
/-- A state that goes on: the words so far, what is left, how many bytes there were. -/
structure St where
  v : V8
  r : List UInt8
  n : Nat
def Kd.new (k : Kd) : St := ⟨k.h, [], 0⟩
def Kd.write (k : Kd) (s : St) (l : List UInt8) : St := let q := blks k.B k.step s.v (s.r ++ l); ⟨q.1, q.2, s.n + l.length⟩
def Kd.ask (k : Kd) (s : St) : List UInt8 := (blks k.B k.step s.v (s.r ++ padB k.B s.n)).1.list.flatMap fun x => bytesOf x (k.W / 8)
/-- The state of all bytes. -/
def Kd.at (k : Kd) (l : List UInt8) : St := ⟨(blks k.B k.step k.h l).1, (blks k.B k.step k.h l).2, l.length⟩
theorem Kd.at_write {k : Kd} (hB : 0 < k.B) (l y : List UInt8) : k.write (k.at l) y = k.at (l ++ y) := by
  simp only [Kd.write, Kd.at, ← blks_append hB, List.length_append]
theorem Kd.at_nil {k : Kd} : k.at [] = k.new := by
  simp only [Kd.at, Kd.new, blks, List.length_nil, Nat.zero_div]; rfl
theorem Kd.ask_at {k : Kd} (hB : 0 < k.B) (l : List UInt8) : k.ask (k.at l) = k.sum l := by
  simp only [Kd.ask, Kd.at, ← blks_append hB]; rfl

def sh256 : Sh := ⟨⟨2, 13, 22⟩, ⟨6, 11, 25⟩, ⟨7, 18, 3⟩, ⟨17, 19, 10⟩⟩
def sh512 : Sh := ⟨⟨28, 34, 39⟩, ⟨14, 18, 41⟩, ⟨1, 8, 7⟩, ⟨19, 61, 6⟩⟩
def K : List Nat := [4794697086780616226, 8158064640168781261, 13096744586834688815, 16840607885511220156, 4131703408338449720, 6480981068601479193, 10538285296894168987, 12329834152419229976, 15566598209576043074, 1334009975649890238, 2608012711638119052, 6128411473006802146, 8268148722764581231, 9286055187155687089, 11230858885718282805, 13951009754708518548, 16472876342353939154, 17275323862435702243, 1135362057144423861, 2597628984639134821, 3308224258029322869, 5365058923640841347, 6679025012923562964, 8573033837759648693, 10970295158949994411, 12119686244451234320, 12683024718118986047, 13788192230050041572, 14330467153632333762, 15395433587784984357, 489312712824947311, 1452737877330783856, 2861767655752347644, 3322285676063803686, 5560940570517711597, 5996557281743188959, 7280758554555802590, 8532644243296465576, 9350256976987008742, 10552545826968843579, 11727347734174303076, 12113106623233404929, 14000437183269869457, 14369950271660146224, 15101387698204529176, 15463397548674623760, 17586052441742319658, 1182934255886127544, 1847814050463011016, 2177327727835720531, 2830643537854262169, 3796741975233480872, 4115178125766777443, 5681478168544905931, 6601373596472566643, 7507060721942968483, 8399075790359081724, 8693463985226723168, 9568029438360202098, 10144078919501101548, 10430055236837252648, 11840083180663258601, 13761210420658862357, 14299343276471374635, 14566680578165727644, 15097957966210449927, 16922976911328602910, 17689382322260857208, 500013540394364858, 748580250866718886, 1242879168328830382, 1977374033974150939, 2944078676154940804, 3659926193048069267, 4368137639120453308, 4836135668995329356, 5532061633213252278, 6448918945643986474, 6902733635092675308, 7801388544844847127]
def H0 : Nat := 7640891576956012808
def H1 : Nat := 13503953896175478587
def H2 : Nat := 4354685564936845355
def H3 : Nat := 11912009170470909681
def H4 : Nat := 5840696475078001361
def H5 : Nat := 11170449401992604703
def H6 : Nat := 2270897969802886507
def H7 : Nat := 6620516959819538809
def k256 : Kd := ⟨32, sh256, (K.take 64).map (· / 4294967296), ⟨H0 / 4294967296, H1 / 4294967296, H2 / 4294967296, H3 / 4294967296, H4 / 4294967296, H5 / 4294967296, H6 / 4294967296, H7 / 4294967296⟩⟩
def k512 : Kd := ⟨64, sh512, K, ⟨H0, H1, H2, H3, H4, H5, H6, H7⟩⟩
/-- The document's constants: a root's first 64 bits behind the point, bit by bit, in numbers of 160 bits. -/
structure R3 where
  r : Nat
  q : Nat
  l : Nat
def M160 : Nat := 2 ^ 160
def rmore (p : Nat) (r q : Nat) : Nat := if p = 2 then (1 + r * 2) % M160 else ((1 + r * 3) % M160 + q * 3) % M160
def rstep (n p step : Nat) (s : R3) : R3 :=
  let g := if 64 ≤ step then n / 2 ^ (p * (step - 64)) % 2 ^ p else 0
  let l := (s.l * 2 ^ p + g) % M160
  let r := s.r * 2 % M160
  let q := s.q * 4 % M160
  let m := rmore p r q
  if l < m then ⟨r, q, l⟩ else ⟨(r * 1 + 1) % M160, ((q + r * 2) % M160 * 1 + 1) % M160, l - m⟩
def rloop (n p : Nat) : Nat → R3 → R3
  | 0, s => s
  | k + 1, s => rloop n p k (rstep n p k s)
def rootF (n p : Nat) : Nat := (rloop n p 67 ⟨0, 0, 0⟩).r % 2 ^ 64
def ps : List Nat := [2, 3, 5, 7, 11, 13, 17, 19, 23, 29, 31, 37, 41, 43, 47, 53, 59, 61, 67, 71, 73, 79, 83, 89, 97, 101, 103, 107, 109, 113, 127, 131, 137, 139, 149, 151, 157, 163, 167, 173, 179, 181, 191, 193, 197, 199, 211, 223, 227, 229, 233, 239, 241, 251, 257, 263, 269, 271, 277, 281, 283, 293, 307, 311, 313, 317, 331, 337, 347, 349, 353, 359, 367, 373, 379, 383, 389, 397, 401, 409]
theorem roots3 : ps.map (rootF · 3) = K := by decide +kernel
theorem roots2 : (ps.take 8).map (rootF · 2) = k512.h.list := by decide +kernel
theorem abc : (k256.sum [97, 98, 99]).take 8 = [0xba, 0x78, 0x16, 0xbf, 0x8f, 0x01, 0xcf, 0xea] := by decide +kernel
theorem nil512 : (k512.sum []).take 4 = [0xcf, 0x83, 0xe1, 0x35] := by decide +kernel
theorem abx : k256.sum [97, 98, 99] ≠ k256.sum [97, 98, 120] := by decide +kernel
end Go.Proofs.YtjednaendedpdaaGreat.Sha
namespace Go.Proofs.YtjednaendedpdaaGreat
set_option maxRecDepth 100000
set_option linter.unusedVariables false
open Go Go.RowKit Sha

theorem rotr_lt (W x n : Nat) (hx : x < 2 ^ W) : rotr W x n < 2 ^ W :=
  Nat.or_lt_two_pow (Nat.lt_of_le_of_lt (Nat.div_le_self _ _) hx) (Nat.mod_lt _ (Nat.two_pow_pos _))
theorem big_lt (W x : Nat) (n : T3) (hx : x < 2 ^ W) : big W x n < 2 ^ W :=
  Nat.xor_lt_two_pow (Nat.xor_lt_two_pow (rotr_lt _ _ _ hx) (rotr_lt _ _ _ hx)) (rotr_lt _ _ _ hx)
theorem sml_lt (W x : Nat) (n : T3) (hx : x < 2 ^ W) : sml W x n < 2 ^ W :=
  Nat.xor_lt_two_pow (Nat.xor_lt_two_pow (rotr_lt _ _ _ hx) (rotr_lt _ _ _ hx)) (Nat.lt_of_le_of_lt (Nat.div_le_self _ _) hx)
/-- Numbers of bits that a word of W bits is turned by. -/
structure Sha.T3.Ok (W : Nat) (n : T3) : Prop where
  a : 1 ≤ n.a ∧ n.a < W
  b : 1 ≤ n.b ∧ n.b < W
  c : 1 ≤ n.c ∧ n.c < W
def t3v (n : T3) : Value := .agg #[.int .i64 n.a, .int .i64 n.b, .int .i64 n.c]
theorem xor32 (a b : Nat) (ha : a < 4294967296) (hb : b < 4294967296) : bits .xor .u32 (a : Int) (b : Int) = ((a ^^^ b : Nat) : Int) := u32_xor_nat _ _ ha hb

theorem xor64 (a b : Nat) (ha : a < 18446744073709551616) (hb : b < 18446744073709551616) : bits .xor .u64 (a : Int) (b : Int) = ((a ^^^ b : Nat) : Int) := u64_xor_nat _ _ ha hb

end Go.Proofs.YtjednaendedpdaaGreat

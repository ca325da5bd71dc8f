/- The logs' laws: a log of the call's own; Same, all. Images in slots: Write, End. SHA-2 on plain numbers: words, blocks, sums; a sum that goes on. SHA-2: a word turned; mixed. -/
import Derived.Test.YtjednaendedpdaaGreatM11
import Derived.Test.YtjednaendedpdaaGreatM08
import Derived.Test.YtjednaendedpdaaGreatRows
import Derived.Test.YtjednaendedpdaaGreatM01
import Derived.Laws.BitsAllLaws
namespace Go.Proofs.YtjednaendedpdaaGreat
set_option maxRecDepth 100000
set_option linter.unusedVariables false
open Go Go.RowKit

/-- A log of the call's own. -/
structure OwL (w wr : World) (B g q p bb cb : Nat) (v : Value) (s : FS) (l : LS) : Prop where
  lg : LgS wr (1 : Nat) (B : Nat) g q p bb cb v s l
  lo : ∀ k, k ∈ [g, q, p, bb, cb] → w.heap.size ≤ k
  lv : ∀ k, v.ownBlock = some k → w.heap.size ≤ k
  be : Below w.heap.size w wr
theorem OwL.same {w wr w1 : World} {B g q p bb cb : Nat} {v : Value} {s : FS} {l : LS} (h : OwL w wr B g q p bb cb v s l) (hb : Below wr.heap.size wr w1) : OwL w w1 B g q p bb cb v s l :=
  ⟨h.lg.keep (Upd.of_below hb), h.lo, h.lv, h.be.trans (hb.mono h.be.size)⟩
theorem OwL.same0 {w wr w1 : World} {B g q p bb cb : Nat} {v : Value} {s : FS} {l : LS} (h : OwL w wr B g q p bb cb v s l) (hu : Upd [] wr w1) : OwL w w1 B g q p bb cb v s l := h.same (Upd.below9 hu)
theorem OwL.step {w wr w1 : World} {B g q p bb cb : Nat} {v v' : Value} {s s' : FS} {l l' : LS} (h : OwL w wr B g q p bb cb v s l) (hl : LgS w1 (1 : Nat) (B : Nat) g q p bb cb v' s' l') (hv : ∀ j, v'.ownBlock = some j → v.ownBlock = some j ∨ wr.heap.size ≤ j) (hu : Upd (fp g v p bb cb) wr w1) : OwL w w1 B g q p bb cb v' s' l' :=
  ⟨hl, h.lo, fun k hk => by
    rcases hv k hk with h' | h'
    · exact h.lv k h'
    · exact Nat.le_trans h.be.size h', Upd.below h.be hu (fun i hi => by
    unfold fp at hi
    simp only [List.mem_cons, Option.mem_toList] at hi
    rcases hi with rfl | rfl | rfl | rfl | hi
    · exact h.lo _ (by simp)
    · exact h.lo _ (by simp)
    · exact h.lo _ (by simp)
    · exact h.lo _ (by simp)
    · exact h.lv i hi) h.be.size⟩
section
variable {w wr : World} {B g q p bb cb : Nat} {v : Value} {s : FS} {l : LS}
theorem OwL.append (h : OwL w wr B g q p bb cb v s l) (hi : LInv 1 B s l) (r : ByteArray) (spare : Int) (hr : r.size ≤ 9223372036854775807) (hn : l.newest.2 + 1 < 281474976710656) :
    Calls Tryz.prog 16 #[.pointer (some ⟨g, 0, none⟩), .string r, .int .i64 spare] wr fun e w' => e = .returned (.int .i64 (s.lappend 1 B l r.data.toList spare).2.2) ∧ (∃ v', OwL w w' B g q p bb cb v' (s.lappend 1 B l r.data.toList spare).1 (s.lappend 1 B l r.data.toList spare).2.1) ∧ Upd (fp g v p bb cb) wr w' :=
  (lappend_any g q p bb cb 1 B v s l r spare wr h.lg hi.by_.lok hr hn).mono fun e w' ⟨he, ⟨v', h1, h2⟩, hu⟩ => ⟨he, ⟨v', h.step h1 h2 hu⟩, hu⟩
theorem OwL.room (h : OwL w wr B g q p bb cb v s l) (hi : LInv 1 B s l) : Calls Tryz.prog 37 #[.pointer (some ⟨g, 0, none⟩)] wr fun e w' => e = .returned (.int .i64 (s.lroom 1 l : Nat)) ∧ OwL w w' B g q p bb cb v s l ∧ Below wr.heap.size wr w' :=
  (lroom_any g q p bb cb 1 B v s l wr h.lg hi.by_.lok).mono fun e w' ⟨he, _, hu⟩ => ⟨he, h.same0 hu, Upd.below9 hu⟩
theorem OwL.free (h : OwL w wr B g q p bb cb v s l) (hi : LInv 1 B s l) : Calls Tryz.prog 36 #[.pointer (some ⟨g, 0, none⟩)] wr fun e w' => e = .returned (.int .i64 (B - l.segs.length : Nat)) ∧ OwL w w' B g q p bb cb v s l ∧ Below wr.heap.size wr w' :=
  (lfree_any g q p bb cb (1 : Nat) B v s l wr h.lg hi.by_.lok.few).mono fun e w' ⟨he, _, hu⟩ => ⟨he, h.same0 hu, Upd.below9 hu⟩
theorem OwL.segs (h : OwL w wr B g q p bb cb v s l) (hi : LInv 1 B s l) (hB : B ≤ 12) : Calls Tryz.prog 35 #[.pointer (some ⟨g, 0, none⟩)] wr fun e w' => ∃ gs cap, e = .returned (.slice (some ⟨gs, 0, none⟩) l.segs.length cap) ∧ w'.ownsRow wr.heap.size 3 1 (.slice (some ⟨gs, 0, none⟩) l.segs.length cap) l.segs.length (segN l.segs) ∧ OwL w w' B g q p bb cb v s l ∧ Below wr.heap.size wr w' :=
  (lsegs_any g q p bb cb (1 : Nat) (B : Nat) v s l wr h.lg hi.by_.lok.ne (by have := hi.by_.lok.few; omega)).mono fun e w' ⟨v', he, ho, _, hb⟩ => by
    obtain ⟨gs, cap, rfl⟩ := own_formI ho (List.length_pos_iff.2 hi.by_.lok.ne)
    exact ⟨gs, cap, he, ho, h.same hb, hb⟩
theorem OwL.records (h : OwL w wr B g q p bb cb v s l) (hi : LInv 1 B s l) (x : Nat × Nat) (hx : x ∈ l.segs) : Calls Tryz.prog 38 #[.pointer (some ⟨g, 0, none⟩), .int .i64 (x.2 : Nat)] wr fun e w' => (∃ v', e = .returned (.tuple #[v', .int .i64 0]) ∧ w'.ownsRow wr.heap.size 9 1 v' (recN (s.blk 1 x.1) 7 1).length ((recN (s.blk 1 x.1) 7 1).map fun r => .string ⟨r.toArray⟩)) ∧ OwL w w' B g q p bb cb v s l ∧ Below wr.heap.size wr w' := by
  have := lrecords_any g q p bb cb 1 B v s l (x.2 : Nat) wr h.lg hi.by_.lok
  rw [hi.recs x hx] at this
  exact this.mono fun e w' ⟨he, _, hb⟩ => ⟨he, h.same hb, hb⟩
theorem OwL.oldest (h : OwL w wr B g q p bb cb v s l) (hi : LInv 1 B s l) : Calls Tryz.prog 39 #[.pointer (some ⟨g, 0, none⟩)] wr fun e w' => e = .returned (.int .i64 (s.ldrop 1 B l 0).2.2) ∧ (∃ v', OwL w w' B g q p bb cb v' (s.ldrop 1 B l 0).1 (s.ldrop 1 B l 0).2.1) ∧ Upd (fp g v p bb cb) wr w' :=
  (loldest_any g q p bb cb 1 B v s l wr h.lg hi.by_.lok).mono fun e w' ⟨he, ⟨v', h1, h2⟩, hu⟩ => ⟨he, ⟨v', h.step h1 h2 hu⟩, hu⟩
theorem OwL.dnewest (h : OwL w wr B g q p bb cb v s l) (hi : LInv 1 B s l) : Calls Tryz.prog 56 #[.pointer (some ⟨g, 0, none⟩)] wr fun e w' => e = .returned (.int .i64 (s.ldrop 1 B l (l.segs.length - 1)).2.2) ∧ (∃ v', OwL w w' B g q p bb cb v' (s.ldrop 1 B l (l.segs.length - 1)).1 (s.ldrop 1 B l (l.segs.length - 1)).2.1) ∧ Upd (fp g v p bb cb) wr w' :=
  (lnewdrop_any g q p bb cb 1 B v s l wr h.lg hi.by_.lok).mono fun e w' ⟨he, ⟨v', h1, h2⟩, hu⟩ => ⟨he, ⟨v', h.step h1 h2 hu⟩, hu⟩
end
/-- Integers in a row. -/
def Ints (w : World) (v : Value) (l : List Int) : Prop := ∃ a cap, v = .slice a l.length cap ∧ ∀ j x, l[j]? = some x → ∃ b, a = some b ∧ w.cell? (b.add j) = some (.int .i64 x)
set_option maxHeartbeats 1000000 in
theorem same8_any (ga ca gb cb : Nat) (x y : List Int) (hx : x.length ≤ 100000) (hy : y.length ≤ 100000) (w : World) (h1 : ∀ j u, x[j]? = some u → w.cell? ⟨ga, j, none⟩ = some (.int .i64 u)) (h2 : ∀ j u, y[j]? = some u → w.cell? ⟨gb, j, none⟩ = some (.int .i64 u)) :
    Calls Tryz.prog 34 #[.slice (some ⟨ga, 0, none⟩) x.length ca, .slice (some ⟨gb, 0, none⟩) y.length cb] w fun e w' => e = .returned (.bool (decide (x = y))) ∧ ∃ n, w' = w.drewN n := by
  by_cases hl : x.length = y.length
  · have hlI : ((x.length : Int) != (y.length : Int)) = false := by rw [bne_eq_false_iff_eq]; omega
    have HL := Box.mk hl
    clear hl
    go_enter Tryz.func34, Tryz.ntmps34
    go_wp2_with fail
    go_loopw [5] (fun i wr => ∃ j n : Nat, j ≤ x.length ∧ i = .int .i64 (j : Nat) ∧ wr = w.drewN n ∧ ∀ k, k < j → x[k]? = y[k]?) (fun i _ => x.length - (intOf i).toNat)
    case atStart => exact ⟨0, 0, by omega, rfl, rfl, fun k hk => by omega⟩
    case round =>
      obtain ⟨j, n, hj, rfl, rfl, hall⟩ := hrel
      have HA := Box.mk hall
      clear hall
      by_cases hlt : j < x.length
      · have hI : (j : Int) < (x.length : Int) := by omega
        have hI2 : (j : Int) < (y.length : Int) := by have := HL.out; omega
        obtain ⟨a, ha⟩ : ∃ a, x[j]? = some a := ⟨_, List.getElem?_eq_getElem hlt⟩
        obtain ⟨b, hb⟩ : ∃ b, y[j]? = some b := ⟨_, List.getElem?_eq_getElem (by have := HL.out; omega)⟩
        have c1 := h1 j a ha
        have c2 := h2 j b hb
        have HAB := Box.mk (And.intro ha hb); have HLT := Box.mk hlt
        clear h1 h2 ha hb hlt
        by_cases hab : a = b
        · have habI : (a != b) = false := by rw [bne_eq_false_iff_eq]; exact hab
          have HE := Box.mk hab
          clear hab
          go_wp2_with fail
          go_quiet (fail)
          go_wp2_with fail
          exact ⟨⟨j + 1, _, HLT.out, by go_num, rfl, fun k hk => by
            rcases Nat.lt_succ_iff_lt_or_eq.1 hk with h | rfl
            · exact HA.out k h
            · rw [HAB.out.1, HAB.out.2, HE.out]⟩, by have := HLT.out; simp [intOf]; omega⟩
        · have habI : (a != b) = true := by rw [bne_iff_ne]; exact hab
          have HE : Box (x ≠ y) := ⟨fun e => by have := HAB.out; rw [e, this.2] at this; exact hab (Option.some.inj this.1).symm⟩
          clear hab
          go_wp2_with fail
          go_quiet (fail)
          go_wp2_with fail
          go_ret
          exact ⟨by rw [decide_eq_false HE.out]; rfl, n + nq, by simp⟩
      · have hI : ¬ (j : Int) < (x.length : Int) := by omega
        have HE : Box (x = y) := ⟨List.ext_getElem? fun k => by
          rcases Nat.lt_or_ge k x.length with h | h
          · exact HA.out k (by omega)
          · have := HL.out
            rw [List.getElem?_eq_none h, List.getElem?_eq_none (by omega)]⟩
        clear hlt h1 h2
        go_wp2_with fail
        go_ret
        exact ⟨by rw [decide_eq_true HE.out]; rfl, _, rfl⟩
  · have hlI : ((x.length : Int) != (y.length : Int)) = true := by rw [bne_iff_ne]; omega
    have HE : Box (x ≠ y) := ⟨fun e => hl (by rw [e])⟩
    clear hl h1 h2
    go_enter Tryz.func34, Tryz.ntmps34
    go_wp2_with fail
    go_ret
    exact ⟨by rw [decide_eq_false HE.out]; rfl, 0, rfl⟩
set_option maxHeartbeats 1000000 in
theorem same_any (va vb : Value) (x y : List ByteArray) (hx : x.length ≤ 100000) (hy : y.length ≤ 100000) (w : World) (ga ca gb cb : Nat) (ha : va = .slice (some ⟨ga, 0, none⟩) x.length ca) (hb : vb = .slice (some ⟨gb, 0, none⟩) y.length cb) (h1 : ∀ j u, x[j]? = some u → w.cell? ⟨ga, j, none⟩ = some (.string u)) (h2 : ∀ j u, y[j]? = some u → w.cell? ⟨gb, j, none⟩ = some (.string u)) :
    Calls Tryz.prog 23 #[va, vb] w fun e w' => e = .returned (.bool (decide (x = y))) ∧ ∃ n, w' = w.drewN n := by
  subst ha hb
  by_cases hl : x.length = y.length
  · have hlI : ((x.length : Int) != (y.length : Int)) = false := by rw [bne_eq_false_iff_eq]; omega
    have HL := Box.mk hl
    clear hl
    go_enter Tryz.func23, Tryz.ntmps23
    go_wp2_with fail
    go_loopw [5] (fun i wr => ∃ j n : Nat, j ≤ x.length ∧ i = .int .i64 (j : Nat) ∧ wr = w.drewN n ∧ ∀ k, k < j → x[k]? = y[k]?) (fun i _ => x.length - (intOf i).toNat)
    case atStart => exact ⟨0, 0, by omega, rfl, rfl, fun k hk => by omega⟩
    case round =>
      obtain ⟨j, n, hj, rfl, rfl, hall⟩ := hrel
      have HA := Box.mk hall
      clear hall
      by_cases hlt : j < x.length
      · have hI : (j : Int) < (x.length : Int) := by omega
        have hI2 : (j : Int) < (y.length : Int) := by have := HL.out; omega
        obtain ⟨a, ha⟩ : ∃ a, x[j]? = some a := ⟨_, List.getElem?_eq_getElem hlt⟩
        obtain ⟨b, hb⟩ : ∃ b, y[j]? = some b := ⟨_, List.getElem?_eq_getElem (by have := HL.out; omega)⟩
        have c1 := h1 j a ha
        have c2 := h2 j b hb
        have HAB := Box.mk (And.intro ha hb); have HLT := Box.mk hlt
        clear h1 h2 ha hb hlt
        by_cases hab : a = b
        · have habI : (a.toList == b.toList) = true := by rw [beq_iff_eq, hab]
          have HE := Box.mk hab
          clear hab
          go_wp2_with fail
          go_quiet (fail)
          go_wp2_with fail
          exact ⟨⟨j + 1, _, HLT.out, by go_num, rfl, fun k hk => by
            rcases Nat.lt_succ_iff_lt_or_eq.1 hk with h | rfl
            · exact HA.out k h
            · rw [HAB.out.1, HAB.out.2, HE.out]⟩, by have := HLT.out; simp [intOf]; omega⟩
        · have habI : (a.toList == b.toList) = false := by rw [beq_eq_false_iff_ne]; exact fun h => hab (ba_ext (by rw [← ByteArray.toList_eq, ← ByteArray.toList_eq]; exact h))
          have HE : Box (x ≠ y) := ⟨fun e => by have := HAB.out; rw [e, this.2] at this; exact hab (Option.some.inj this.1).symm⟩
          clear hab
          go_wp2_with fail
          go_quiet (fail)
          go_wp2_with fail
          go_ret
          exact ⟨by rw [decide_eq_false HE.out]; rfl, n + nq, by simp⟩
      · have hI : ¬ (j : Int) < (x.length : Int) := by omega
        have HE : Box (x = y) := ⟨List.ext_getElem? fun k => by
          rcases Nat.lt_or_ge k x.length with h | h
          · exact HA.out k (by omega)
          · have := HL.out
            rw [List.getElem?_eq_none h, List.getElem?_eq_none (by omega)]⟩
        clear hlt h1 h2
        go_wp2_with fail
        go_ret
        exact ⟨by rw [decide_eq_true HE.out]; rfl, _, rfl⟩
  · have hlI : ((x.length : Int) != (y.length : Int)) = true := by rw [bne_iff_ne]; omega
    have HE : Box (x ≠ y) := ⟨fun e => hl (by rw [e])⟩
    clear hl h1 h2
    go_enter Tryz.func23, Tryz.ntmps23
    go_wp2_with fail
    go_ret
    exact ⟨by rw [decide_eq_false HE.out]; rfl, 0, rfl⟩
theorem own_ne {w : World} {b1 b2 e1 e2 s1 s2 n1 n2 : Nat} {v1 v2 : Value} {x1 x2 : List Value} (h1 : w.ownsRow b1 e1 s1 v1 n1 x1) (h2 : w.ownsRow b2 e2 s2 v2 n2 x2) (hne : e1 ≠ e2) {k : Nat} (hk : v1.ownBlock = some k) : v2.ownBlock ≠ some k := fun hk2 => by
  rcases h1.2 with ⟨rfl, _⟩ | ⟨g, c, cur, rfl, _, hg, _⟩
  · cases hk
  · rcases h2.2 with ⟨rfl, _⟩ | ⟨g2, c2, cur2, rfl, _, hg2, _⟩
    · cases hk2
    · simp only [Value.ownBlock, Option.some.injEq] at hk hk2
      subst hk hk2
      rw [hg] at hg2
      simp at hg2
      exact hne hg2.2
theorem own_below {w w' : World} {base size n : Nat} {e : TypeId} {v : Value} {xs : List Value} (h : w.ownsRow base e size v n xs) (hb : Below w.heap.size w w') : w'.ownsRow base e size v n xs := own_keep h fun k _ hl => hb.block k hl
/-- A row of strings lies apart of a log. -/
theorem LgS.apart {w : World} {F B : Int} {g q p bb cb : Nat} {v : Value} {s : FS} {l : LS} (h : LgS w F B g q p bb cb v s l) {base n : Nat} {x : Value} {xs : List Value} (ho : w.ownsRow base 9 1 x n xs) (k : Nat) (hk : x.ownBlock = some k) : k ∉ fp g v p bb cb := by
  have hrow : ∃ cur, w.heap[k]? = some (.cells cur 9 (0, 0)) := by
    rcases ho.2 with ⟨rfl, _⟩ | ⟨g, c, cur, rfl, _, hg, _⟩
    · cases hk
    · simp only [Value.ownBlock, Option.some.injEq] at hk; subst hk; exact ⟨cur, hg⟩
  obtain ⟨cur, hr⟩ := hrow
  intro hm
  unfold fp at hm
  simp only [List.mem_cons, Option.mem_toList] at hm
  rcases hm with rfl | rfl | rfl | rfl | hm
  · have := h.lg.row; rw [hr] at this; simp at this
  · obtain ⟨_, _, _, _, this⟩ := h.f.st; rw [hr] at this; simp at this
  · obtain ⟨_, _, this, _⟩ := h.f.by_; rw [hr] at this; simp at this
  · obtain ⟨_, this⟩ := h.f.cn; rw [hr] at this; simp at this
  · exact own_ne ho h.lg.own (by decide) hk hm
def strV (l : List (List UInt8)) : List Value := l.map fun r => Value.string ⟨r.toArray⟩
set_option maxHeartbeats 2000000 in
theorem all_any {w wz : World} {B g q p bb cb : Nat} {v : Value} {s : FS} {l : LS} (h : OwL w wz B g q p bb cb v s l) (hi : LInv 1 B s l) (hB : B ≤ 12) (hle : ∀ x ∈ l.segs, (recN (s.blk 1 x.1) 7 1).length ≤ 7) :
    Calls Tryz.prog 22 #[.pointer (some ⟨g, 0, none⟩)] wz fun e w' => (∃ gs cap, e = .returned (.tuple #[.slice (some ⟨gs, 0, none⟩) (s.lall 1 l.segs).length cap, .bool true]) ∧ w'.ownsRow wz.heap.size 9 1 (.slice (some ⟨gs, 0, none⟩) (s.lall 1 l.segs).length cap) (s.lall 1 l.segs).length (strV (s.lall 1 l.segs))) ∧ Below wz.heap.size wz w' := by
  have hm12 := hi.by_.lok.few
  obtain ⟨W0, hW0⟩ : ∃ W, W = wz.alloc (.cells #[] 9) := ⟨_, rfl⟩
  have bW0 : Below wz.heap.size wz W0 := by rw [hW0]; exact (Below.refl _ _).alloc (Nat.le_refl _) _
  have O0 := Box.mk (show W0.ownsRow wz.heap.size 9 1 (.slice (some ⟨wz.heap.size, 0, none⟩) 0 0) 0 [] by rw [hW0]; exact World.ownsRow_lit (base := wz.heap.size) (size := 1) (e := 9) wz #[] 0 (Nat.le_refl _) (by unfold maxLen; omega) rfl)
  have SG := Box.mk ((h.same bW0).segs hi hB)
  have BW0 := Box.mk bW0
  have HH := Box.mk h
  have S0 : Box (wz.heap.size ≤ W0.heap.size) := ⟨bW0.size⟩
  clear bW0 h
  obtain ⟨b0, hb0⟩ : ∃ b, b = wz.heap.size := ⟨_, rfl⟩
  go_enter Tryz.func22, Tryz.ntmps22
  go_upto_region 2 with (fail)
  rw [← hW0, ← hb0]
  rw [← hb0] at O0
  clear hW0
  go_wp2_with fail
  refine SG.out.mono ?_
  rintro e w1 ⟨gs, cap, rfl, hown, hol, hb⟩
  have RS := Box.mk (show w1.ownsRow b0 3 1 (.slice (some ⟨gs, 0, none⟩) l.segs.length cap) l.segs.length (segN l.segs) from by
    refine ⟨hown.1, hown.2.imp id fun ⟨a, b, c, d, f, r⟩ => ⟨a, b, c, d, Nat.le_trans (by rw [hb0]; exact S0.out) f, r⟩⟩)
  have O1 := Box.mk (own_below O0.out hb)
  have B1 := Box.mk (show Below b0 wz w1 by rw [hb0]; exact BW0.out.trans (hb.mono S0.out))
  have HB0 := Box.mk hb0
  clear hown hol hb SG O0 BW0 S0 hb0
  go_wp2_with fail
  go_loopw [4, 6, 7, 8] (fun o i _ _ wr => ∃ j c go, j ≤ l.segs.length ∧ i = .int .i64 (j : Nat) ∧ o = .slice (some ⟨go, 0, none⟩) (s.lall 1 (l.segs.take j)).length c ∧ wr.ownsRow b0 9 1 (.slice (some ⟨go, 0, none⟩) (s.lall 1 (l.segs.take j)).length c) (s.lall 1 (l.segs.take j)).length (strV (s.lall 1 (l.segs.take j))) ∧ wr.ownsRow b0 3 1 (.slice (some ⟨gs, 0, none⟩) l.segs.length cap) l.segs.length (segN l.segs) ∧ (s.lall 1 (l.segs.take j)).length ≤ 7 * j ∧ Below b0 wz wr) (fun _ i _ _ _ => l.segs.length - (intOf i).toNat)
  case atStart => exact ⟨0, 0, b0, by omega, rfl, rfl, O1.out, RS.out, by simp [FS.lall], B1.out⟩
  case round =>
    clear O1 RS B1
    obtain ⟨j, c, go, hj, rfl, rfl, ho, hs, hlen, hb⟩ := hrel
    have HO := Box.mk ho; have HS := Box.mk hs; have HB := Box.mk hb; have HLEN := Box.mk hlen
    clear ho hb hlen
    by_cases hlt : j < l.segs.length
    · have hI : (j : Int) < (l.segs.length : Int) := by omega
      obtain ⟨x, hx⟩ : ∃ x, l.segs[j]? = some x := ⟨_, List.getElem?_eq_getElem hlt⟩
      have hxm := List.mem_of_getElem? hx
      have c1 : wr.cell? ⟨gs, j, none⟩ = some (.int .i64 (x.2 : Nat)) := by
        rw [hs.cellAt j (by omega)]; unfold segN; rw [List.getElem?_map, hx]; rfl
      have RC := Box.mk ((HH.out.same (by rw [← HB0.out]; exact HB.out)).records hi x hxm)
      have htk : l.segs.take (j + 1) = l.segs.take j ++ [x] := by rw [List.take_add_one, hx]; rfl
      have hla : s.lall 1 (l.segs.take (j + 1)) = s.lall 1 (l.segs.take j) ++ recN (s.blk 1 x.1) 7 1 := by rw [htk, lall_app]; unfold FS.lall; simp
      have hr7 := hle x hxm
      have HLA := Box.mk hla; have HLT := Box.mk hlt
      generalize recN (s.blk 1 x.1) 7 1 = rs at RC hr7 HLA
      generalize s.lall 1 (l.segs.take j) = A at HO HLEN HLA
      clear hs hx hxm htk hla hlt
      go_wp2_with fail
      refine RC.out.mono ?_
      rintro e w2 ⟨⟨v2, rfl, hown2⟩, _, hb2⟩
      have O2 := Box.mk (own_below HO.out hb2); have S2 := Box.mk (own_below HS.out hb2); have B2 := Box.mk (show Below b0 wz w2 from HB.out.trans (hb2.mono (by rw [HB0.out]; exact HB.out.size)))
      have HW2 := Box.mk hown2
      clear hb2 HO HS HB RC c1
      have S9 := Box.mk (show b0 ≤ w2.heap.size from by
        have := B2.out.size; have e := HB0.out; omega)
      have hAc : A.length ≤ c := by
        rcases O2.out.2 with ⟨h, _⟩ | ⟨_, _, _, hv, _, _, h, _⟩
        · cases h
        · cases hv; exact h
      rcases hown2.2 with ⟨rfl, h0⟩ | ⟨gg, cc, cu, rfl, hrest⟩
      · obtain rfl : rs = [] := List.eq_nil_of_length_eq_zero h0
        have hA : Box (s.lall 1 (l.segs.take (j + 1)) = A) := ⟨by rw [HLA.out, List.append_nil]⟩
        clear hown2
        go_wp2_with fail
        exact ⟨⟨j + 1, c, go, HLT.out, by go_num, by rw [hA.out], by rw [hA.out]; exact O2.out, S2.out, by rw [hA.out]; have := HLEN.out; omega, B2.out⟩, by have := HLT.out; simp [intOf]; omega⟩
      · have hcs : Box (∀ k u, (strV rs)[k]? = some u → w2.cell? ((⟨gg, 0, none⟩ : Addr).add k) = some u) := ⟨HW2.out.cells (g := gg) rfl⟩
        have hone : ∀ u ∈ strV rs, u.oneCell' = true := fun u hu => by
          obtain ⟨r, _, rfl⟩ := List.mem_map.1 hu; rfl
        have hl2 : (strV rs).length = rs.length * 1 := by simp [strV]
        obtain ⟨i0, hi0, hz0, hsz0, hby0⟩ := info_parts info_str
        have hA : Box (s.lall 1 (l.segs.take (j + 1)) = A ++ rs) := ⟨HLA.out⟩
        have hal := HLEN.out
        have hj12 : j ≤ 12 := by omega
        clear hown2 hrest
        go_wp2_with (at_builtin; refine wpList_append_own _ rfl (.tmp 29) (.tmp 30) 51 rfl b0 9 i0 (.string ⟨#[]⟩) 1 16 Tryz.underlying51 hi0 hz0 hsz0 hby0 rfl (by decide) (.slice (some ⟨go, 0, none⟩) A.length c) A.length (strV A) rfl O2.out ⟨gg, 0, none⟩ rs.length cc (strV rs) rfl hl2 hcs.out hone (by unfold maxLen; omega) (by omega) S9.out ?_; intro v' w' hown' hgrow hnil)
        have hv' : ∃ g' c', v' = .slice (some ⟨g', 0, none⟩) (A.length + rs.length) c' := by
          rcases hown'.2 with ⟨hn, _⟩ | ⟨g', c', cu', hv, _⟩
          · have := (hnil.1 hn).1; cases this
          · exact ⟨g', c', hv⟩
        obtain ⟨g', c', rfl⟩ := hv'
        have hS := own_keep S2.out (w' := w') fun k hk hl => hgrow.block k hl (fun e => own_ne S2.out O2.out (by decide) hk e.symm)
        refine ⟨⟨j + 1, c', g', HLT.out, by go_num, by rw [hA.out, List.length_append], ?_, hS, by rw [hA.out, List.length_append]; omega, B2.out.grown hgrow S9.out (fun k e => (World.ownsRow.lt O2.out k e).1)⟩, by have := HLT.out; simp [intOf]; omega⟩
        rw [hA.out, List.length_append, show strV (A ++ rs) = strV A ++ strV rs by simp [strV]]
        exact hown'
    · have hI : ¬ (j : Int) < (l.segs.length : Int) := by omega
      have hT : Box (l.segs.take j = l.segs) := ⟨List.take_of_length_le (by omega)⟩
      clear hlt hs
      go_wp2_with fail
      go_ret2
      have e := hT.out
      rw [e]
      exact ⟨⟨go, c, rfl, by rw [← HB0.out]; have := HO.out; rw [e] at this; exact this⟩, by rw [← HB0.out]; exact HB.out⟩
end Go.Proofs.YtjednaendedpdaaGreat
namespace Go.Proofs.YtjednaendedpdaaGreat
set_option maxRecDepth 100000
set_option linter.unusedVariables false
open Go Go.RowKit

/-- Where the blocks of a writer lie. -/
structure Spl (g q p bb cb : Nat) : Prop where
  hg : g ∉ [p, bb, cb]
  hq : q ∉ [p, bb, cb]
  hn : q ≠ g
theorem Spl.p {g q p bb cb : Nat} (h : Spl g q p bb cb) : p ∉ [g] ∧ bb ∉ [g] ∧ cb ∉ [g] ∧ q ∉ [g, p, bb, cb] := by
  obtain ⟨h1, h2, h3⟩ := h
  simp only [List.mem_cons, List.not_mem_nil, or_false, not_or] at h1 h2 ⊢
  exact ⟨fun e => h1.1 e.symm, fun e => h1.2.1 e.symm, fun e => h1.2.2 e.symm, h3, h2.1, h2.2.1, h2.2.2⟩
theorem upd_g {S : List Nat} {a b : World} {g p bb cb : Nat} (h : Upd S a b) (hs : ∀ k, k ∈ S → k ∈ [g, p, bb, cb]) : Upd [g, p, bb, cb] a b := h.mono hs
theorem drop_take_page (A : List UInt8) (z o : Nat) (ho : o = z % 64) (hz : z ≤ A.length) : ((A.take z).drop (64 * (z / 64))).length = o := by
  rw [List.length_drop, List.length_take]; omega
/-- Bytes that came behind others, in a page. -/
theorem page_more {page A : List UInt8} {m o n : Nat} (hp : page.length = 64) (h : page.take o = (A.drop m).take o) (ho : o + n ≤ 64) (hA : m + o + n ≤ A.length) :
    (page.take o ++ (A.drop (m + o)).take n ++ page.drop (o + n)).take (o + n) = (A.drop m).take (o + n) := by
  have hl : ((A.drop (m + o)).take n).length = n := by rw [List.length_take, List.length_drop]; omega
  have hl2 : (page.take o).length = o := by rw [List.length_take]; omega
  rw [List.take_append_of_le_length (by rw [List.length_append, hl, hl2]; exact Nat.le_refl _), List.take_of_length_le (by rw [List.length_append, hl, hl2]; exact Nat.le_refl _), h]
  rw [List.take_add, List.drop_drop]

end Go.Proofs.YtjednaendedpdaaGreat
namespace Go.Proofs.YtjednaendedpdaaGreat.Sha
set_option maxRecDepth 100000
set_option linter.unusedVariables false

/-- A word of W bits turned to the right. -/
def rotr (W x n : Nat) : Nat := x / 2 ^ n ||| x * 2 ^ (W - n) % 2 ^ W
/-- Three numbers of bits. -/
structure T3 where
  a : Nat
  b : Nat
  c : Nat
structure Sh where
  a : T3
  b : T3
  c : T3
  d : T3
def big (W x : Nat) (n : T3) : Nat := rotr W x n.a ^^^ rotr W x n.b ^^^ rotr W x n.c
def sml (W x : Nat) (n : T3) : Nat := rotr W x n.a ^^^ rotr W x n.b ^^^ x / 2 ^ n.c
def nextW (W : Nat) (s : Sh) (l : List Nat) : Nat :=
  (sml W (l.getD (l.length - 2) 0) s.d + l.getD (l.length - 7) 0 + sml W (l.getD (l.length - 15) 0) s.c + l.getD (l.length - 16) 0) % 2 ^ W
/-- n words more. -/
def sched (W : Nat) (s : Sh) : Nat → List Nat → List Nat
  | 0, l => l
  | n + 1, l => sched W s n (l ++ [nextW W s l])
/-- Eight words. -/
structure V8 where
  a : Nat
  b : Nat
  c : Nat
  d : Nat
  e : Nat
  f : Nat
  g : Nat
  h : Nat
def V8.list (v : V8) : List Nat := [v.a, v.b, v.c, v.d, v.e, v.f, v.g, v.h]
def one (W : Nat) (s : Sh) (v : V8) (k x : Nat) : Nat := (v.h + big W v.e s.b + ((v.e &&& v.f) ^^^ ((2 ^ W - 1 - v.e) &&& v.g)) + k + x) % 2 ^ W
def two (W : Nat) (s : Sh) (v : V8) : Nat := (big W v.a s.a + ((v.a &&& v.b) ^^^ (v.a &&& v.c) ^^^ (v.b &&& v.c))) % 2 ^ W
def round (W : Nat) (s : Sh) (v : V8) (k x : Nat) : V8 :=
  ⟨(one W s v k x + two W s v) % 2 ^ W, v.a, v.b, v.c, (v.d + one W s v k x) % 2 ^ W, v.e, v.f, v.g⟩
def rnds (W : Nat) (s : Sh) : List Nat → List Nat → V8 → V8
  | k :: ks, x :: xs, v => rnds W s ks xs (round W s v k x)
  | _, _, v => v
def plus (W : Nat) (v u : V8) : V8 :=
  ⟨(v.a + u.a) % 2 ^ W, (v.b + u.b) % 2 ^ W, (v.c + u.c) % 2 ^ W, (v.d + u.d) % 2 ^ W, (v.e + u.e) % 2 ^ W, (v.f + u.f) % 2 ^ W, (v.g + u.g) % 2 ^ W, (v.h + u.h) % 2 ^ W⟩
/-- A block's words. -/
def blk (W : Nat) (s : Sh) (ks : List Nat) (v : V8) (l : List Nat) : V8 :=
  plus W v (rnds W s ks (sched W s (ks.length - l.length) l) v)
/-- The number of bytes, the highest first. -/
def be (l : List UInt8) : Nat := l.foldl (fun x b => 256 * x + b.toNat) 0
/-- n bytes at a time, as numbers. -/
def wordsOf (n : Nat) : Nat → List UInt8 → List Nat
  | 0, _ => []
  | c + 1, l => be (l.take n) :: wordsOf n c (l.drop n)
/-- n bytes of a number, the highest first. -/
def bytesOf (x : Nat) : Nat → List UInt8
  | 0 => []
  | n + 1 => UInt8.ofNat (x / 256 ^ n) :: bytesOf x n

/-- A kind: bits of a word, shifts, constants, the words with which a sum begins. -/
structure Kd where
  W : Nat
  s : Sh
  ks : List Nat
  h : V8
def Kd.B (k : Kd) : Nat := 2 * k.W
def Kd.step (k : Kd) (v : V8) (l : List UInt8) : V8 := blk k.W k.s k.ks v (wordsOf (k.W / 8) 16 l)

/-- n blocks. -/
def run (B : Nat) (f : V8 → List UInt8 → V8) : Nat → V8 → List UInt8 → V8 × List UInt8
  | 0, v, l => (v, l)
  | n + 1, v, l => run B f n (f v (l.take B)) (l.drop B)
/-- All whole blocks. -/
def blks (B : Nat) (f : V8 → List UInt8 → V8) (v : V8) (l : List UInt8) : V8 × List UInt8 := run B f (l.length / B) v l
theorem run_add (B : Nat) (f : V8 → List UInt8 → V8) (m : Nat) : ∀ n v l, run B f (n + m) v l = run B f m (run B f n v l).1 (run B f n v l).2
  | 0, v, l => by rw [Nat.zero_add]; rfl
  | n + 1, v, l => by rw [show n + 1 + m = n + m + 1 from by omega, run, run_add B f m n]; rfl
theorem run_len (B : Nat) (f : V8 → List UInt8 → V8) : ∀ n v l, n * B ≤ l.length → (run B f n v l).2.length = l.length - n * B
  | 0, v, l, _ => by simp [run]
  | n + 1, v, l, h => by
    rw [Nat.add_mul, Nat.one_mul] at h
    rw [run, run_len B f n _ _ (by rw [List.length_drop]; omega), List.length_drop, Nat.add_mul, Nat.one_mul]; omega
theorem run_append (B : Nat) (f : V8 → List UInt8 → V8) (y : List UInt8) : ∀ n v l, n * B ≤ l.length → run B f n v (l ++ y) = ((run B f n v l).1, (run B f n v l).2 ++ y)
  | 0, v, l, _ => rfl
  | n + 1, v, l, h => by
    rw [Nat.add_mul, Nat.one_mul] at h
    rw [run, run, List.take_append_of_le_length (by omega), List.drop_append_of_le_length (by omega)]
    exact run_append B f y n _ _ (by rw [List.length_drop]; omega)
theorem blks_rest {B : Nat} (hB : 0 < B) (f : V8 → List UInt8 → V8) (v : V8) (l : List UInt8) : (blks B f v l).2.length = l.length % B := by
  unfold blks
  rw [run_len _ _ _ _ _ (Nat.div_mul_le_self _ _)]
  have := Nat.div_add_mod l.length B
  rw [Nat.mul_comm] at this; omega
/-- What is left goes ahead of what comes. -/
theorem blks_append {B : Nat} (hB : 0 < B) (f : V8 → List UInt8 → V8) (v : V8) (l y : List UInt8) :
    blks B f v (l ++ y) = blks B f (blks B f v l).1 ((blks B f v l).2 ++ y) := by
  have hr := blks_rest hB f v l
  have e : (l ++ y).length / B = l.length / B + ((blks B f v l).2 ++ y).length / B := by
    rw [List.length_append, List.length_append, hr]
    have := Nat.div_add_mod l.length B
    rw [show l.length + y.length = (l.length % B + y.length) + B * (l.length / B) from by omega, Nat.add_mul_div_left _ _ hB, Nat.add_comm]
  rw [show blks B f v (l ++ y) = run B f ((l ++ y).length / B) v (l ++ y) from rfl, e, run_add, run_append _ _ _ _ _ _ (Nat.div_mul_le_self _ _)]
  rfl

/-- What goes behind the bytes: so many zeros that the length comes last in a block. -/
def zeros (B n : Nat) : Nat := (B - B / 8 + B - (n + 1) % B) % B
def padB (B n : Nat) : List UInt8 := (128 : UInt8) :: (List.replicate (zeros B n) 0 ++ bytesOf (8 * n) (B / 8))
/-- The sum. -/
def Kd.sumV (k : Kd) (l : List UInt8) : V8 := (blks k.B k.step k.h (l ++ padB k.B l.length)).1
def Kd.sum (k : Kd) (l : List UInt8) : List UInt8 := (k.sumV l).list.flatMap fun x => bytesOf x (k.W / 8)
/-- A state that goes on: the words so far, what is left, how many bytes there were. -/
structure St where
  v : V8
  r : List UInt8
  n : Nat
def Kd.new (k : Kd) : St := ⟨k.h, [], 0⟩
def Kd.write (k : Kd) (s : St) (l : List UInt8) : St := let q := blks k.B k.step s.v (s.r ++ l); ⟨q.1, q.2, s.n + l.length⟩
def Kd.ask (k : Kd) (s : St) : List UInt8 := (blks k.B k.step s.v (s.r ++ padB k.B s.n)).1.list.flatMap fun x => bytesOf x (k.W / 8)
/-- The state of all bytes. -/
def Kd.at (k : Kd) (l : List UInt8) : St := ⟨(blks k.B k.step k.h l).1, (blks k.B k.step k.h l).2, l.length⟩
theorem Kd.at_write {k : Kd} (hB : 0 < k.B) (l y : List UInt8) : k.write (k.at l) y = k.at (l ++ y) := by
  simp only [Kd.write, Kd.at, ← blks_append hB, List.length_append]
theorem Kd.at_nil {k : Kd} : k.at [] = k.new := by
  simp only [Kd.at, Kd.new, blks, List.length_nil, Nat.zero_div]; rfl
theorem Kd.ask_at {k : Kd} (hB : 0 < k.B) (l : List UInt8) : k.ask (k.at l) = k.sum l := by
  simp only [Kd.ask, Kd.at, ← blks_append hB]; rfl

def sh256 : Sh := ⟨⟨2, 13, 22⟩, ⟨6, 11, 25⟩, ⟨7, 18, 3⟩, ⟨17, 19, 10⟩⟩
def sh512 : Sh := ⟨⟨28, 34, 39⟩, ⟨14, 18, 41⟩, ⟨1, 8, 7⟩, ⟨19, 61, 6⟩⟩
def K : List Nat := [4794697086780616226, 8158064640168781261, 13096744586834688815, 16840607885511220156, 4131703408338449720, 6480981068601479193, 10538285296894168987, 12329834152419229976, 15566598209576043074, 1334009975649890238, 2608012711638119052, 6128411473006802146, 8268148722764581231, 9286055187155687089, 11230858885718282805, 13951009754708518548, 16472876342353939154, 17275323862435702243, 1135362057144423861, 2597628984639134821, 3308224258029322869, 5365058923640841347, 6679025012923562964, 8573033837759648693, 10970295158949994411, 12119686244451234320, 12683024718118986047, 13788192230050041572, 14330467153632333762, 15395433587784984357, 489312712824947311, 1452737877330783856, 2861767655752347644, 3322285676063803686, 5560940570517711597, 5996557281743188959, 7280758554555802590, 8532644243296465576, 9350256976987008742, 10552545826968843579, 11727347734174303076, 12113106623233404929, 14000437183269869457, 14369950271660146224, 15101387698204529176, 15463397548674623760, 17586052441742319658, 1182934255886127544, 1847814050463011016, 2177327727835720531, 2830643537854262169, 3796741975233480872, 4115178125766777443, 5681478168544905931, 6601373596472566643, 7507060721942968483, 8399075790359081724, 8693463985226723168, 9568029438360202098, 10144078919501101548, 10430055236837252648, 11840083180663258601, 13761210420658862357, 14299343276471374635, 14566680578165727644, 15097957966210449927, 16922976911328602910, 17689382322260857208, 500013540394364858, 748580250866718886, 1242879168328830382, 1977374033974150939, 2944078676154940804, 3659926193048069267, 4368137639120453308, 4836135668995329356, 5532061633213252278, 6448918945643986474, 6902733635092675308, 7801388544844847127]
def H0 : Nat := 7640891576956012808
def H1 : Nat := 13503953896175478587
def H2 : Nat := 4354685564936845355
def H3 : Nat := 11912009170470909681
def H4 : Nat := 5840696475078001361
def H5 : Nat := 11170449401992604703
def H6 : Nat := 2270897969802886507
def H7 : Nat := 6620516959819538809
def k256 : Kd := ⟨32, sh256, (K.take 64).map (· / 4294967296), ⟨H0 / 4294967296, H1 / 4294967296, H2 / 4294967296, H3 / 4294967296, H4 / 4294967296, H5 / 4294967296, H6 / 4294967296, H7 / 4294967296⟩⟩
def k512 : Kd := ⟨64, sh512, K, ⟨H0, H1, H2, H3, H4, H5, H6, H7⟩⟩
/-- The document's constants: a root's first 64 bits behind the point, bit by bit, in numbers of 160 bits. -/
structure R3 where
  r : Nat
  q : Nat
  l : Nat
def M160 : Nat := 2 ^ 160
def rmore (p : Nat) (r q : Nat) : Nat := if p = 2 then (1 + r * 2) % M160 else ((1 + r * 3) % M160 + q * 3) % M160
def rstep (n p step : Nat) (s : R3) : R3 :=
  let g := if 64 ≤ step then n / 2 ^ (p * (step - 64)) % 2 ^ p else 0
  let l := (s.l * 2 ^ p + g) % M160
  let r := s.r * 2 % M160
  let q := s.q * 4 % M160
  let m := rmore p r q
  if l < m then ⟨r, q, l⟩ else ⟨(r * 1 + 1) % M160, ((q + r * 2) % M160 * 1 + 1) % M160, l - m⟩
def rloop (n p : Nat) : Nat → R3 → R3
  | 0, s => s
  | k + 1, s => rloop n p k (rstep n p k s)
def rootF (n p : Nat) : Nat := (rloop n p 67 ⟨0, 0, 0⟩).r % 2 ^ 64
def ps : List Nat := [2, 3, 5, 7, 11, 13, 17, 19, 23, 29, 31, 37, 41, 43, 47, 53, 59, 61, 67, 71, 73, 79, 83, 89, 97, 101, 103, 107, 109, 113, 127, 131, 137, 139, 149, 151, 157, 163, 167, 173, 179, 181, 191, 193, 197, 199, 211, 223, 227, 229, 233, 239, 241, 251, 257, 263, 269, 271, 277, 281, 283, 293, 307, 311, 313, 317, 331, 337, 347, 349, 353, 359, 367, 373, 379, 383, 389, 397, 401, 409]
theorem roots3 : ps.map (rootF · 3) = K := by decide +kernel
theorem roots2 : (ps.take 8).map (rootF · 2) = k512.h.list := by decide +kernel
theorem abc : (k256.sum [97, 98, 99]).take 8 = [0xba, 0x78, 0x16, 0xbf, 0x8f, 0x01, 0xcf, 0xea] := by decide +kernel
theorem nil512 : (k512.sum []).take 4 = [0xcf, 0x83, 0xe1, 0x35] := by decide +kernel
theorem abx : k256.sum [97, 98, 99] ≠ k256.sum [97, 98, 120] := by decide +kernel
end Go.Proofs.YtjednaendedpdaaGreat.Sha
namespace Go.Proofs.YtjednaendedpdaaGreat
set_option maxRecDepth 100000
set_option linter.unusedVariables false
open Go Go.RowKit Sha

theorem rotr_lt (W x n : Nat) (hx : x < 2 ^ W) : rotr W x n < 2 ^ W :=
  Nat.or_lt_two_pow (Nat.lt_of_le_of_lt (Nat.div_le_self _ _) hx) (Nat.mod_lt _ (Nat.two_pow_pos _))
theorem big_lt (W x : Nat) (n : T3) (hx : x < 2 ^ W) : big W x n < 2 ^ W :=
  Nat.xor_lt_two_pow (Nat.xor_lt_two_pow (rotr_lt _ _ _ hx) (rotr_lt _ _ _ hx)) (rotr_lt _ _ _ hx)
theorem sml_lt (W x : Nat) (n : T3) (hx : x < 2 ^ W) : sml W x n < 2 ^ W :=
  Nat.xor_lt_two_pow (Nat.xor_lt_two_pow (rotr_lt _ _ _ hx) (rotr_lt _ _ _ hx)) (Nat.lt_of_le_of_lt (Nat.div_le_self _ _) hx)
/-- Numbers of bits that a word of W bits is turned by. -/
structure Sha.T3.Ok (W : Nat) (n : T3) : Prop where
  a : 1 ≤ n.a ∧ n.a < W
  b : 1 ≤ n.b ∧ n.b < W
  c : 1 ≤ n.c ∧ n.c < W
def t3v (n : T3) : Value := .agg #[.int .i64 n.a, .int .i64 n.b, .int .i64 n.c]
theorem xor32 (a b : Nat) (ha : a < 4294967296) (hb : b < 4294967296) : bits .xor .u32 (a : Int) (b : Int) = ((a ^^^ b : Nat) : Int) := u32_xor_nat _ _ ha hb

theorem xor64 (a b : Nat) (ha : a < 18446744073709551616) (hb : b < 18446744073709551616) : bits .xor .u64 (a : Int) (b : Int) = ((a ^^^ b : Nat) : Int) := u64_xor_nat _ _ ha hb

end Go.Proofs.YtjednaendedpdaaGreat

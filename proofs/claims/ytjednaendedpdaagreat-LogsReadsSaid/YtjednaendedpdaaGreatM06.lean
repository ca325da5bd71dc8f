/- Logs: makes. Logs: the plain answers of Open, Records, Room, Append, drop. Logs: newest, Free, Room, Format. Logs: Format. Logs: plain laws of a block's records. Logs: laid. -/
import Derived.Test.YtjednaendedpdaaGreatM05
import Derived.Test.YtjednaendedpdaaGreatM04
import Derived.Deep.RegionHeld
namespace Go.Proofs.YtjednaendedpdaaGreat
set_option maxRecDepth 100000
set_option linter.unusedVariables false
open Go Go.RowKit

theorem info_tseg : (Tryz.prog.info? 78).map (fun i => (i.zero, i.size, i.bytes)) = some (some (.agg #[.int .i64 0, .int .i64 0]), 2, 16) := by kernel_rfl
theorem lpwrite_any (g q p bb cb : Nat) (F B : Int) (v : Value) (s : FS) (l : LS) (a : Nat) (t : List UInt8) (w : World) (h : LgS w F B g q p bb cb v s l) (ha : a ≤ 1000000) (ht : t.length ≤ 1000000) :
    Calls Tryz.prog 55 #[.pointer (some ⟨q, 0, none⟩), .int .i64 (a : Nat), .string ⟨t.toArray⟩] w fun e w' => e = .returned (.int .i64 (s.pwrite F B a t).2) ∧ LgS w' F B g q p bb cb v (s.pwrite F B a t).1 l ∧ Upd [p, bb, cb] w w' :=
  (pwrite_any q p bb cb F B s a ⟨t.toArray⟩ w h.f h.ok h.pa h.i h.ap.nm.2.2.2.2.2.1 h.ap.nm.2.2.2.2.1 (by omega) (by show (t.toArray.size : Nat) ≤ _; rw [List.size_toArray]; omega)).mono fun e w' ⟨he, hf, hu⟩ => ⟨he, h.flash hf (FS.pwrite_ok h.ok F B a _).1 (FS.pwrite_ok h.ok F B a _).2 (hu.mono (by simp)), hu.mono (by simp)⟩
set_option maxHeartbeats 1000000 in
theorem lmakes_any (g q p bb cb : Nat) (F B : Int) (v : Value) (s : FS) (l : LS) (k num : Nat) (w : World) (h : LgS w F B g q p bb cb v s l) (hk : k ≤ 256) (hnum : num < 281474976710656) (hsg : l.segs.length < 300) :
    Calls Tryz.prog 53 #[.pointer (some ⟨g, 0, none⟩), .int .i64 k, .int .i64 num] w fun e w' => e = .returned (.int .i64 (s.lmakes F B l k num).2.2) ∧
      (∃ v', LgS w' F B g q p bb cb v' (s.lmakes F B l k num).1 (s.lmakes F B l k num).2.1 ∧ ∀ j, v'.ownBlock = some j → v.ownBlock = some j ∨ w.heap.size ≤ j) ∧ Upd (fp g v p bb cb) w w' := by
  have hw0 : IntKind.i64.wrap ((k : Int) * 512) = ((512 * k : Nat) : Int) := by rw [IntKind.wrap_i64]; omega
  have hw7 : IntKind.i64.wrap (((512 * k : Nat) : Int) + 7) = ((512 * k + 7 : Nat) : Int) := by rw [IntKind.wrap_i64]; omega
  have CL := Box.mk (lclean_any g q p bb cb F B v s l k w h hk)
  obtain ⟨V, hV⟩ : ∃ V, V = s.lmakes F B l k num := ⟨_, rfl⟩
  rw [← hV]
  have HM := Box.mk hV
  clear hV
  unfold FS.lmakes at HM
  have O1 := FS.lclean_ok h.ok F B l k
  have SG1 : (s.lclean F B l k).2.1.segs.length = l.segs.length := rfl
  generalize s.lclean F B l k = c at CL HM O1 SG1
  obtain ⟨s1, l1, e1⟩ := c
  dsimp only at CL HM O1 SG1
  have H := Box.mk h
  have BG := Box.mk (fun w => lbegin_any num hnum w)
  have HK := Box.mk hk
  have SG : Box (l1.segs.length < 300) := ⟨by rw [SG1]; exact hsg⟩
  clear SG1 hsg
  clear h hk
  by_cases he1 : e1 = 0
  · have hb1 : (e1 != 0) = false := by simpa using he1
    have hm := HM.out
    rw [if_neg (by simpa using he1)] at hm
    unfold FS.lwrite at hm
    dsimp only at hm
    have HM := Box.mk hm
    clear hm
    go_enter Tryz.func53, Tryz.ntmps53
    go_wp2_with fail
    refine CL.out.mono ?_
    rintro e w1 ⟨rfl, h1, u1⟩
    have H1 := Box.mk h1; have U1 := Box.mk u1; clear h1 u1
    obtain ⟨c0, c1, c2⟩ := H1.out.lg.cells
    go_upto_region 4 with (fail)
    have LT : Box (∀ k ∈ [p, bb, cb], k < w1.heap.size) := ⟨by have := H1.out.f.lt; intro k hk; simp at hk; omega⟩
    have GN := Box.mk H1.out.ap.hg
    have BG := Box.mk (fun w1 (h : LgS w1 F B g q p bb cb v s1 l1) => (BG.out w1).mono (fun e w' hh => (show _ ∧ LgS w' F B g q p bb cb v s1 l1 ∧ Upd [] w1 w' from ⟨hh.1, h.keep (Upd.of_below hh.2), Upd.of_below hh.2⟩)))
    have PW := Box.mk (fun w1 (h : LgS w1 F B g q p bb cb v s1 l1) => (lpwrite_any g q p bb cb F B v s1 l1 (512 * k) (begL num) w1 h (by have := HK.out; omega) (by simp [begL, leList_length])))
    generalize s1.pwrite F B ((512 * k : Nat) : Int) (begL num) = r at PW HM
    obtain ⟨r1, r2⟩ := r
    dsimp only at PW HM
    refine wp_region_mixS [p, bb, cb] (fun w => LgS w F B g q p bb cb v s1 l1) (fun w w' hg h => h.keep hg.upd) (H1.out.keep (Upd.refl [] w1).drew) (LT.out) 10 [.flo, .flo, .flo, .flo, .flo, .flo, .flo, .flo, .cha, .cha] (by kernel_rfl) (by kernel_rfl) rfl ?_
    simp only [List.take, List.zip, List.zipWith]
    try go_frame
    refine gm_move (.tmp 0) (.inl rfl) (.pointer (some ⟨g, 0, none⟩)) rfl ?_
    try go_frame
    refine gm_move (.tmp 0) (.inl rfl) (.pointer (some ⟨g, 0, none⟩)) rfl ?_
    try go_frame
    refine gm_flo (.pointer (some ⟨g, 0, none⟩)) (fun w1 hw1 => ?_) ?_
    case refine_1 =>
      go_simp
    try go_frame
    refine gm_flo (.pointer (some ⟨g, 0, none⟩)) (fun w1 hw1 => ?_) ?_
    case refine_1 =>
      go_simp
    try go_frame
    refine gm_flo (.pointer (some ⟨q, 0, none⟩)) (fun w1 hw1 => ?_) ?_
    case refine_1 =>
      have e1 : w1.cell? ⟨g, 0, none⟩ = some (.pointer (some ⟨q, 0, none⟩)) := (cell_of_row _ _ _ _ _ _ (hw1.at (GN.out) H1.out.lg.row)).trans rfl
      go_simp
    try go_frame
    refine gm_move (.tmp 1) (.inl rfl) (.int .i64 k) rfl ?_
    try go_frame
    refine gm_flo (.int .i64 ((512 * k : Nat) : Int)) (fun w1 hw1 => ?_) ?_
    case refine_1 =>
      go_simp
    try go_frame
    refine gm_move (.tmp 2) (.inl rfl) (.int .i64 num) rfl ?_
    try go_frame
    refine gm_callS [.int .i64 num] (by kernel_rfl) rfl rfl (fun w1 hw1 hF1 => (BG.out w1 hF1).mono ?_)
    rintro e w2 ⟨rfl, hf, hu⟩
    refine ⟨_, rfl, GrS.of_upd hu (by simp), ((fun w => LgS w F B g q p bb cb v s1 l1)), ((fun w w' hg h => h.keep hg.upd)), (hf), ?_⟩
    clear hw1 hF1 hf hu w1 w2
    try go_frame
    refine gm_callS [.pointer (some ⟨q, 0, none⟩), .int .i64 ((512 * k : Nat) : Int), .string ⟨(begL num).toArray⟩] (by kernel_rfl) rfl rfl (fun w1 hw1 hF1 => (PW.out w1 hF1).mono ?_)
    rintro e w2 ⟨rfl, hf, hu⟩
    refine ⟨_, rfl, GrS.of_upd hu (by simp), ((fun w => LgS w F B g q p bb cb v r1 l1)), ((fun w w' hg h => h.keep hg.upd)), (hf), ?_⟩
    clear hw1 hF1 hf hu w1 w2
    try go_frame
    refine gm_nil ?_
    intro w9 hw9 hF9
    simp only [List.drop]
    try go_frame

    have H9 := Box.mk hF9; have U9 := Box.mk (U1.out.trans ((Upd.refl [g, p, bb, cb] w1).drew.trans (hw9.upd.mono (T := [g, p, bb, cb]) (fun k hk => List.mem_cons_of_mem _ hk))))
    clear hF9 hw9
    go_wp2_with fail
    refine (ltold_any g q v l1 r2 _ H9.out.lg H9.out.vg).mono ?_
    rintro e w2 ⟨rfl, hl, hu⟩
    have H10 := Box.mk (H9.out.own hl hu); have U10 := Box.mk (U9.out.trans (hu.mono (T := [g, p, bb, cb]) (by simp)))
    clear hl hu H9 U9
    by_cases hr : r2 = 0
    · have hrb : (r2 != 0) = false := by simpa using hr
      have hm := HM.out
      rw [if_neg (by simpa using hr)] at hm
      have PZ := Box.mk (lpwrite_any g q p bb cb F B v r1 (l1.told r2) (512 * k + 7) [0] w2 H10.out (by have := HK.out; omega) (by simp))
      generalize r1.pwrite F B ((512 * k + 7 : Nat) : Int) [0] = z at PZ hm
      obtain ⟨z1, z2⟩ := z
      dsimp only at PZ hm
      have HM := Box.mk hm
      clear hm hr
      obtain ⟨d0, d1, d2⟩ := H10.out.lg.cells
      go_wp2_with fail
      rw [show wrap64 (512 * (k : Int) + 7) = ((512 * k + 7 : Nat) : Int) by have := HK.out; rw [IntWalk.wrap64_in] <;> omega]
      refine PZ.out.mono ?_
      rintro e w3 ⟨rfl, h3, u3⟩
      have H11 := Box.mk h3; have U11 := Box.mk (U10.out.trans (u3.mono (T := [g, p, bb, cb]) (fun k hk => List.mem_cons_of_mem _ hk)))
      clear h3 u3 H10 U10
      go_wp2_with fail
      refine (ltold_any g q v _ z2 _ H11.out.lg H11.out.vg).mono ?_
      rintro e w4 ⟨rfl, hl, hu⟩
      have H12 := Box.mk (H11.out.own hl hu); have U12 := Box.mk (U11.out.trans (hu.mono (T := [g, p, bb, cb]) (by simp)))
      clear hl hu H11 U11
      by_cases hz : z2 = 0
      · have hzb : (z2 != 0) = false := by simpa using hz
        have hm := HM.out
        rw [if_neg (by simpa using hz)] at hm
        have HM := Box.mk hm
        clear hm hz
        have f1 := H12.out.lg.free 1
        obtain ⟨d0, d1, d2⟩ := H12.out.lg.cells
        obtain ⟨i0, hi0, hz0, hsz0, hby0⟩ := info_parts info_tseg
        have hsl : ((l1.told r2).told z2).segs = l1.segs := rfl
        have AP := run_append_fresh (P := Tryz.prog) (w4.alloc (.cells #[.int .i64 (k : Int), .int .i64 (num : Int)] 78)) 71 71 78 i0 _ 2 16 Tryz.underlying71 hi0 hz0 hsz0 hby0 rfl (by decide) v l1.segs.length (segC l1.segs) (own_alloc H12.out.lg.own _) ⟨w4.heap.size, 0, none⟩ 1 1 [.int .i64 (k : Int), .int .i64 (num : Int)] rfl (two_newR w4 _ _ _) (two_oneR _ _) (by decide) (by have := SG.out; omega) (by decide)
        obtain ⟨v', w', r1', r2', r3', k', hk', hf'⟩ := AP
        obtain ⟨gn, cn, vn⟩ : ∃ gn cn, v' = .slice (some ⟨gn, 0, none⟩) (l1.segs.length + 1) cn := by
          rcases r2'.2 with ⟨_, h0⟩ | ⟨gn, cn, _, h0, _⟩
          · omega
          · exact ⟨gn, cn, h0⟩
        subst vn
        have rg : w'.heap[g]? = some (.cells #[.pointer (some ⟨q, 0, none⟩), v, .bool ((l1.told r2).told z2).dead] 73 (0, 0)) := (r3'.block g (Nat.lt_of_lt_of_le H12.out.lg.lt (by simp)) (fun e => H12.out.vg g e.symm rfl)).trans ((heap_alloc_old _ _ H12.out.lg.lt).trans H12.out.lg.row)
        have f1' : w'.frozen? ⟨g, 1, none⟩ = false := frozen_of_row _ _ _ _ _ rg
        have e1' : w'.cell? ⟨g, 1, none⟩ = some v := (cell_of_row _ _ _ _ _ _ rg).trans rfl
        go_wp2_with (at_builtin; refine wpList_append_run rfl (.tmp 47) (.tmp 51) 71 rfl (v1 := v) (v2 := .slice (some ⟨w4.heap.size, 0, none⟩) 1 1) rfl rfl r1' ?_)
        go_ret
        rw [HM.out]
        have hne : gn ≠ g ∧ gn ∉ [g, q, p, bb, cb] := by
          have hkg : k' = gn := by simp [Value.ownBlock] at hk'; omega
          subst hkg
          have hnot : k' ∉ [g, q, p, bb, cb] := by
            rcases hf' with h | h
            · exact H12.out.ap.hv _ h
            · have q1 := H12.out.f.lt; have q2 := H12.out.pa.lt; have q3 := H12.out.lg.lt
              rw [World.size_alloc] at h
              simp only [List.mem_cons, List.not_mem_nil, or_false, not_or]; omega
          exact ⟨fun e => hnot (by rw [e]; exact List.mem_cons_self ..), hnot⟩
        have ug : Upd v.ownBlock.toList w4 w' := ⟨r3'.os, r3'.tape, r3'.output, Nat.le_trans (by simp) r3'.size, fun i hi hn => (r3'.block i (Nat.lt_of_lt_of_le hi (by simp)) (fun e => hn (by rw [← e]; simp))).trans (heap_alloc_old _ _ hi)⟩
        have nv : ∀ j, j ∈ [q, p, bb, cb] → j ∉ g :: v.ownBlock.toList := fun j hj hm => by
          rcases List.mem_cons.1 hm with rfl | hm
          · have := H12.out.ap.nm
            simp only [List.mem_cons, List.not_mem_nil, or_false] at hj; omega
          · exact H12.out.ap.hv j (by simpa using hm) (List.mem_cons_of_mem _ hj)
        have u2 := (ug.mono (T := g :: v.ownBlock.toList) (fun j hj => List.mem_cons_of_mem _ hj)).setCell (p := ⟨g, 1, none⟩) (.inl (List.mem_cons_self ..)) (.slice (some ⟨gn, 0, none⟩) (l1.segs.length + 1) cn)
        refine ⟨rfl, ⟨.slice (some ⟨gn, 0, none⟩) (l1.segs.length + 1) cn, ⟨⟨H12.out.ap.hq, H12.out.ap.hg, fun j hj => ?_⟩, H12.out.f.upd u2 (nv _ (by simp)) (nv _ (by simp)) (nv _ (by simp)), H12.out.ok, H12.out.pa.upd u2 (nv _ (by simp)), H12.out.i, ⟨?_, ?_⟩⟩, fun j hj => ?_⟩, ?_⟩
        · simp [Value.ownBlock] at hj; subst hj; exact hne.2
        · rw [heap_setCell_same _ _ _ _ _ _ rg]; rfl
        · dsimp only
          rw [hsl, List.length_append, segC_app]
          exact own_keep r2' fun j hj _ => heap_setCell_other _ _ _ _ (by simp [Value.ownBlock] at hj; subst hj; exact hne.1)
        · have h4 := (U12.out).size
          rw [World.size_alloc] at hf'
          have hkg : k' = j := by rw [hk'] at hj; exact Option.some.inj hj
          subst hkg
          rcases hf' with h | h
          · exact .inl h
          · exact .inr (by omega)
        · exact (U12.out.mono (by simp [fp])).trans (u2.mono (fun j hj => by
            rcases List.mem_cons.1 hj with rfl | hj
            · exact List.mem_cons_self ..
            · unfold fp; simp only [List.mem_cons]; exact .inr (.inr (.inr (.inr hj)))))
      · have hzb : (z2 != 0) = true := by rw [bne_iff_ne]; exact hz
        have hm := HM.out
        rw [if_pos hz] at hm
        have HM := Box.mk hm
        clear hm hz
        obtain ⟨rfl⟩ := HM
        go_wp2_with fail
        go_ret
        exact ⟨rfl, ⟨v, H12.out, fun j hj => .inl hj⟩, U12.out.mono (by simp [fp])⟩
    · have hrb : (r2 != 0) = true := by rw [bne_iff_ne]; exact hr
      have hm := HM.out
      rw [if_pos hr] at hm
      have HM := Box.mk hm
      clear hm hr
      obtain ⟨rfl⟩ := HM
      go_wp2_with fail
      go_ret
      exact ⟨rfl, ⟨v, H10.out, fun j hj => .inl hj⟩, U10.out.mono (by simp [fp])⟩
  · have hb1 : (e1 != 0) = true := by rw [bne_iff_ne]; exact he1
    have hm := HM.out
    rw [if_pos he1] at hm
    have HM := Box.mk hm
    clear hm he1
    obtain ⟨rfl⟩ := HM
    go_enter Tryz.func53, Tryz.ntmps53
    go_wp2_with fail
    refine CL.out.mono ?_
    rintro e w1 ⟨rfl, h1, u1⟩
    have H1 := Box.mk h1; have U1 := Box.mk u1; clear h1 u1
    go_wp2_with fail
    go_ret
    exact ⟨rfl, ⟨v, H1.out, fun j hj => .inl hj⟩, U1.out.mono (by simp [fp])⟩
end Go.Proofs.YtjednaendedpdaaGreat
namespace Go.Proofs.YtjednaendedpdaaGreat
set_option maxRecDepth 100000
set_option linter.unusedVariables false
open Go Go.RowKit

/-- How many of the first n hold, one behind the other. -/
def runB (p : Nat → Bool) : Nat → Nat
  | 0 => 0
  | n + 1 => if p 0 then 1 + runB (fun k => p (k + 1)) n else 0
theorem runB_le : ∀ (n : Nat) (p : Nat → Bool), runB p n ≤ n
  | 0, _ => Nat.le_refl _
  | n + 1, p => by
    rw [runB]; split
    · have := runB_le n (fun k => p (k + 1)); omega
    · omega
theorem runB_spec : ∀ (n : Nat) (p : Nat → Bool) (k : Nat), k ≤ n → (∀ j, j < k → p j = true) → (k = n ∨ p k = false) → runB p n = k
  | 0, p, k, h, _, _ => by simp [runB]; omega
  | n + 1, p, 0, _, _, h => by
    rcases h with h | h
    · omega
    · rw [runB, h]; simp
  | n + 1, p, k + 1, h, h1, h2 => by
    rw [runB, h1 0 (by omega), if_pos rfl, runB_spec n (fun k => p (k + 1)) k (by omega) (fun j hj => h1 (j + 1) (by omega)) (by
      rcases h2 with h2 | h2
      · exact .inl (by omega)
      · exact .inr h2)]
    omega
theorem runB_true : ∀ (n : Nat) (p : Nat → Bool) (j : Nat), j < runB p n → p j = true
  | 0, p, j, h => by simp [runB] at h
  | n + 1, p, 0, h => by
    rw [runB] at h
    by_cases hp : p 0 = true
    · exact hp
    · rw [if_neg hp] at h; omega
  | n + 1, p, j + 1, h => by
    rw [runB] at h
    by_cases hp : p 0 = true
    · rw [if_pos hp] at h
      exact runB_true n (fun k => p (k + 1)) j (by omega)
    · rw [if_neg hp] at h; omega
theorem runB_false : ∀ (n : Nat) (p : Nat → Bool), runB p n = n ∨ p (runB p n) = false
  | 0, p => .inl rfl
  | n + 1, p => by
    rw [runB]
    by_cases hp : p 0 = true
    · rw [if_pos hp]
      rcases runB_false n (fun k => p (k + 1)) with h | h
      · exact .inl (by omega)
      · exact .inr (by rw [show 1 + runB (fun k => p (k + 1)) n = runB (fun k => p (k + 1)) n + 1 by omega]; exact h)
    · rw [if_neg hp]; exact .inr (by simpa using hp)

/-- A block's, a page's bytes. -/
def FS.blk (s : FS) (F b : Nat) : List UInt8 := (s.b.drop (512 * (F + b))).take 512
def FS.pg (s : FS) (F b p : Nat) : List UInt8 := (s.b.drop (512 * (F + b) + 64 * p)).take 64
/-- A segment's first page. -/
def firstL (num : Nat) : List UInt8 := begL num ++ 0 :: List.replicate 56 255
theorem firstL_len (num : Nat) : (firstL num).length = 64 := by simp [firstL, begL, leList_length]
/-- The number of a first page; 0: it is none. -/
def numL (p : List UInt8) : Nat :=
  let n := leNat ((p.drop 1).take 6)
  if n = 0 ∨ firstL n ≠ p then 0 else n
/-- The numbers of a part's blocks. -/
def FS.nums (s : FS) (F B : Nat) : List Nat := (List.range B).map fun b => numL (s.pg F b 0)
/-- The newest of the first k blocks. -/
def nwst (nums : List Nat) : Nat → Nat
  | 0 => 0
  | k + 1 => if nums.getD k 0 > nums.getD (nwst nums k) 0 then k else nwst nums k
/-- Does the k-th block behind the newest go on with the numbers? -/
def backP (nums : List Nat) (nw k : Nat) : Bool := decide (k < nums.getD nw 0) && decide (nums.getD ((nw + nums.length - k) % nums.length) 0 = nums.getD nw 0 - k)
/-- The segments that are found. -/
def segsOf (nums : List Nat) (nw : Nat) : List (Nat × Nat) := ((List.range (runB (backP nums nw) nums.length)).map fun k => ((nw + nums.length - k) % nums.length, nums.getD nw 0 - k)).reverse
/-- What Open tells: an error, or the segments. -/
def FS.lopen (s : FS) (F B : Nat) : Except Int (List (Nat × Nat)) :=
  if B < 4 then .error 140 else if s.dead then .error 2 else
  let nums := s.nums F B
  let nw := nwst nums B
  if nums.getD nw 0 = 0 ∨ 140737488355328 < nums.getD nw 0 then .error 140 else .ok (segsOf nums nw)
/-- Is there a record's head at a page of a block's bytes? -/
def hdrL (s : List UInt8) (p : Nat) : Bool := s.getD (64 * p) 0 == 1 && s.getD (64 * p + 3) 0 == 0
def lenL (s : List UInt8) (p : Nat) : Nat := leNat ((s.drop (64 * p + 1)).take 2)
/-- The bytes of m pages from p on, as a record's. -/
def bodyL (s : List UInt8) (p : Nat) : Nat → List UInt8
  | 0 => []
  | 1 => (s.drop (64 * p + 4)).take 60
  | m + 1 => bodyL s p m ++ (s.drop (64 * (p + m) + 1)).take 63
def goesL (s : List UInt8) (p : Nat) (k : Nat) : Bool := s.getD (64 * (p + 1 + k)) 0 == 2
/-- The record at a page, and how many pages it takes; 0: none. -/
def recL (s : List UInt8) (p : Nat) : List UInt8 × Nat :=
  if hdrL s p = false then ([], 0) else
  if pgs (lenL s p) = 0 ∨ 8 < p + pgs (lenL s p) then ([], 0) else
  if runB (goesL s p) (pgs (lenL s p) - 1) < pgs (lenL s p) - 1 then ([], 0) else
  ((bodyL s p (pgs (lenL s p))).take (lenL s p), pgs (lenL s p))
def recsFrom (s : List UInt8) : Nat → Nat → List (List UInt8)
  | 0, _ => []
  | f + 1, p => if p < 8 then (if (recL s p).2 = 0 then recsFrom s f (p + 1) else (recL s p).1 :: recsFrom s f (p + (recL s p).2)) else []
def recsL (s : List UInt8) : List (List UInt8) := recsFrom s 8 1
/-- A segment's records. -/
def FS.lrecs (s : FS) (F : Nat) (l : LS) (num : Int) : Except Int (List (List UInt8)) :=
  match l.segs.find? fun x => (x.2 : Int) == num with
  | none => .error 140
  | some x => if l.dead || s.dead then .error 2 else .ok (recsL (s.blk F x.1))
/-- The newest segment. -/
def LS.newest (l : LS) : Nat × Nat := l.segs.getD (l.segs.length - 1) (0, 0)
/-- How many pages at the newest segment's end are erased. -/
def clnL (s : List UInt8) (k : Nat) : Bool := ((s.drop (64 * (7 - k))).take 64).all (· == 255)
def FS.lroom (s : FS) (F : Nat) (l : LS) : Nat := if s.dead then 0 else runB (clnL (s.blk F l.newest.1)) 7
/-- A record's page. -/
def pageL (r : List UInt8) (i : Nat) : List UInt8 := if i = 0 then 1 :: (leList 2 r.length ++ 255 :: r.take 60) else 2 :: (r.drop (60 + 63 * (i - 1))).take 63
/-- Its pages from i on, m of them, are written. -/
def FS.lpages (F B : Int) (at_ : Nat) (r : List UInt8) : Nat → Nat → FS → LS → FS × LS × Int
  | 0, _, s, l => (s, l, 0)
  | m + 1, i, s, l =>
    let a := s.lwrite F B l (at_ + 64 * i) (pageL r i)
    if a.2.2 ≠ 0 then a else FS.lpages F B at_ r m (i + 1) a.1 a.2.1
def FS.lput (s : FS) (F B : Nat) (l : LS) (r : List UInt8) : FS × LS × Int :=
  let at_ := 512 * l.newest.1 + 64 * (8 - s.lroom F l)
  let a := FS.lpages F B at_ r (pgs r.length) 0 s l
  if a.2.2 ≠ 0 then a else a.1.lwrite F B a.2.1 (at_ + 3) [0]
def FS.lappend (s : FS) (F B : Nat) (l : LS) (r : List UInt8) (spare : Int) : FS × LS × Int :=
  if spare < 0 then (s, l, 1) else
  if 400 < r.length then (s, l, 141) else
  if l.dead then (s, l, 2) else
  if s.dead then (s, l.told 2, 2) else
  if pgs r.length > s.lroom F l then
    if ((B - l.segs.length : Nat) : Int) ≤ spare then (s, l, 142) else
    let m := s.lmakes F B l ((l.newest.1 + 1) % B) (l.newest.2 + 1)
    if m.2.2 ≠ 0 then m else m.1.lput F B m.2.1 r
  else s.lput F B l r
def FS.ldrop (s : FS) (F B : Nat) (l : LS) (i : Nat) : FS × LS × Int :=
  if l.segs.length = 1 then (s, l, 140) else
  if l.dead then (s, l, 2) else
  let r := s.perase F B (l.segs.getD i (0, 0)).1
  if r.2 ≠ 0 then (r.1, l.told r.2, r.2) else (r.1, { (l.told 0) with segs := l.segs.eraseIdx i }, 0)
def FS.lcleans (s : FS) (F B : Int) (l : LS) : Nat → FS × LS × Int
  | 0 => (s, l, 0)
  | k + 1 => if (FS.lcleans s F B l k).2.2 ≠ 0 then FS.lcleans s F B l k else (FS.lcleans s F B l k).1.lclean F B (FS.lcleans s F B l k).2.1 k
def FS.lformat (s : FS) (F B : Nat) : FS × LS × Int :=
  if B < 4 then (s, ⟨[], false⟩, 140) else
  let c := FS.lcleans s F B ⟨[], false⟩ B
  if c.2.2 ≠ 0 then c else c.1.lmakes F B c.2.1 0 1
end Go.Proofs.YtjednaendedpdaaGreat
namespace Go.Proofs.YtjednaendedpdaaGreat
set_option maxRecDepth 100000
set_option linter.unusedVariables false
open Go Go.RowKit

section
variable {P : Program} {W : World} {S : List Nat} {T : (World → Prop) → List Nat → Act → Prop} {L : List (Oper × Kd)} {F : World → Prop} {N : List Nat} {a : Act} {o : Oper}
/-- A field of a value. -/
theorem gm_sel {ty : TypeId} (x : Operand) (i : Nat) (ho : o.op = .field ty x i) (vx : Value) (hx : a.eval x = vx) (v : Value) (hr : ∀ w, (Instr.field ty vx i).run P w = .ok v w)
    (h : wpG P W S T L F N (a.put o.dst v)) : wpG P W S T ((o, .flo) :: L) F N a :=
  gm_flo v (fun w hw => by unfold execOp; simp only [ho, hx, Sem.run_bind, hr w, Result.andThen_ok, Sem.run_pure]) h
end
theorem seg_fld (x y : Int) (w : World) : (Instr.field 78 (.agg #[.int .i64 x, .int .i64 y]) 0).run Tryz.prog w = .ok (.int .i64 x) w ∧ (Instr.field 78 (.agg #[.int .i64 x, .int .i64 y]) 1).run Tryz.prog w = .ok (.int .i64 y) w := ⟨by kernel_rfl, by kernel_rfl⟩
theorem cellA {w : World} {a : Addr} {v : Value} (o : Obj) (h : w.cell? a = some v) : (w.alloc o).cell? a = some v := (World.cell?_alloc_some w a o (by rw [h]; rfl)).trans h
/-- A segment's cells. -/
theorem Lg.seg {w : World} {g q : Nat} {v : Value} {l : LS} (h : Lg w g q v l) (hne : l.segs ≠ []) : ∃ gs cap, v = .slice (some ⟨gs, 0, none⟩) l.segs.length cap ∧ ∀ j s, l.segs[j]? = some s → w.cell? ⟨gs, j * 2, none⟩ = some (.int .i64 (s.1 : Int)) ∧ w.cell? ⟨gs, j * 2 + 1, none⟩ = some (.int .i64 (s.2 : Int)) := by
  rcases h.own.2 with ⟨_, h0⟩ | ⟨gs, cap, cur, hv, _⟩
  · exact absurd (List.eq_nil_of_length_eq_zero (by omega)) hne
  · subst hv
    refine ⟨gs, cap, rfl, fun j s hj => ?_⟩
    obtain ⟨h1, h2⟩ := segC_at l.segs j s hj
    have hl := (List.getElem?_eq_some_iff.1 hj).1
    rw [Nat.mul_comm] at h1 h2
    exact ⟨(h.own.cellAt _ (by omega)).trans h1, (h.own.cellAt _ (by omega)).trans h2⟩
theorem LS.newest_at {l : LS} (hne : l.segs ≠ []) : ∃ k, l.segs.length = k + 1 ∧ l.segs[k]? = some l.newest := by
  have : 0 < l.segs.length := List.length_pos_iff.2 hne
  refine ⟨l.segs.length - 1, by omega, ?_⟩
  unfold LS.newest
  rw [List.getD_eq_getElem?_getD, List.getElem?_eq_getElem (by omega)]; rfl
def segV (s : Nat × Nat) : Value := .agg #[.int .i64 (s.1 : Int), .int .i64 (s.2 : Int)]
set_option maxHeartbeats 1000000 in
theorem newest_any (g q : Nat) (v : Value) (l : LS) (w : World) (h : Lg w g q v l) (hne : l.segs ≠ []) (hl : l.segs.length ≤ 1000000) :
    Calls Tryz.prog 52 #[.pointer (some ⟨g, 0, none⟩)] w fun e w' => e = .returned (segV l.newest) ∧ Below w.heap.size w w' := by
  obtain ⟨gs, cap, rfl, hs⟩ := h.seg hne
  obtain ⟨k, hk, hn⟩ := LS.newest_at hne
  obtain ⟨s0, s1⟩ := hs k _ hn
  obtain ⟨c0, c1, c2⟩ := h.cells
  have hwk : IntKind.i64.wrap (k : Int) = (k : Int) := by rw [IntKind.wrap_i64]; omega
  have hkI : (k : Int) < (k : Int) + 1 := by omega
  rw [hk] at c1
  generalize l.newest = nn at s0 s1 ⊢
  have hgs : gs < w.heap.size := (World.ownsRow.lt h.own gs rfl).2
  have A0 := cellA (.cells #[.int .i64 0, .int .i64 0] 78) c1
  have A1 := cellA (.cells #[.int .i64 0, .int .i64 0] 78) s0
  have A2 := cellA (.cells #[.int .i64 0, .int .i64 0] 78) s1
  clear h hs hne hl hn
  go_enter Tryz.func52, Tryz.ntmps52
  go_wp2_with fail
  go_region
  go_wp2_with fail
  refine bodyPost_ret (results_cell_row (p := 2) (ty := 78) rfl _ _ w.heap.size 78 #[.int .i64 (nn.1 : Int), .int .i64 (nn.2 : Int)] (0, 0) _ rfl (by exact heap_alloc_new _ _) Tryz.underlying78 rfl (by kernel_rfl)) rfl ⟨rfl, ((Below.refl _ _).alloc (Nat.le_refl _) _).drew⟩
/-- A log's segments lie in the part. -/
structure LS.Ok (l : LS) (B : Nat) : Prop where
  ne : l.segs ≠ []
  few : l.segs.length ≤ B
  blk : ∀ x ∈ l.segs, x.1 < B
theorem LS.newest_mem {l : LS} (hne : l.segs ≠ []) : l.newest ∈ l.segs := by
  obtain ⟨k, _, h⟩ := LS.newest_at hne
  exact List.mem_of_getElem? h
theorem lnewest_any (g q p bb cb : Nat) (F B : Int) (v : Value) (s : FS) (l : LS) (w : World) (h : LgS w F B g q p bb cb v s l) (hne : l.segs ≠ []) (hl : l.segs.length ≤ 1000000) :
    Calls Tryz.prog 52 #[.pointer (some ⟨g, 0, none⟩)] w fun e w' => e = .returned (.agg #[.int .i64 (l.newest.1 : Nat), .int .i64 (l.newest.2 : Nat)]) ∧ LgS w' F B g q p bb cb v s l ∧ Upd [] w w' :=
  (newest_any g q v l w h.lg hne hl).mono fun e w' ⟨he, hb⟩ => ⟨he, h.keep (Upd.of_below hb), Upd.of_below hb⟩
theorem lpclean_any (g q p bb cb : Nat) (F B : Int) (v : Value) (s : FS) (l : LS) (a n : Nat) (w : World) (h : LgS w F B g q p bb cb v s l) (ha : a ≤ 1000000) (hn : n ≤ 1000000) :
    Calls Tryz.prog 68 #[.pointer (some ⟨q, 0, none⟩), .int .i64 (a : Nat), .int .i64 (n : Nat)] w fun e w' => e = .returned (.tuple #[.bool (pcleanV s F B a n).1, .int .i64 (pcleanV s F B a n).2]) ∧ LgS w' F B g q p bb cb v s l ∧ Upd [] w w' :=
  (pclean_any q p bb cb F B s a n w h.f h.ok h.pa h.i (by omega) (by omega)).mono fun e w' ⟨he, hw⟩ => ⟨he, hw ▸ h, hw ▸ Upd.refl _ _⟩
theorem lfree_any (g q p bb cb : Nat) (F : Int) (B : Nat) (v : Value) (s : FS) (l : LS) (w : World) (h : LgS w F B g q p bb cb v s l) (hl : l.segs.length ≤ B) :
    Calls Tryz.prog 36 #[.pointer (some ⟨g, 0, none⟩)] w fun e w' => e = .returned (.int .i64 ((B - l.segs.length : Nat) : Int)) ∧ LgS w' F B g q p bb cb v s l ∧ Upd [] w w' := by
  obtain ⟨c0, c1, c2⟩ := h.lg.cells
  have H := Box.mk h
  have BL := Box.mk (fun n => lblocks_any g q p F B s.n.length v l (w.drewN n) (h.keep ((Upd.refl [] w).drewN n)).lg (h.keep ((Upd.refl [] w).drewN n)).pa h.i)
  have hB : (B : Int) ≤ 256 := by have h1 := h.i.hi; have h2 := h.i.lo; have h3 := h.i.few; omega
  obtain ⟨cap, gs, hv⟩ : ∃ cap a, v = .slice a l.segs.length cap := by
    rcases h.lg.own.2 with ⟨h0, h1⟩ | ⟨gs, cap, cur, hv, _⟩
    · exact ⟨0, none, by rw [h0, h1]⟩
    · exact ⟨cap, some ⟨gs, 0, none⟩, hv⟩
  subst hv
  have hw : IntKind.i64.wrap ((B : Int) - (l.segs.length : Int)) = ((B - l.segs.length : Nat) : Int) := by rw [IntKind.wrap_i64]; omega
  obtain ⟨k, hkk⟩ : ∃ k, k = l.segs.length := ⟨_, rfl⟩
  rw [← hkk] at c1 hw H hl ⊢
  clear h hl c0 c2 hkk
  go_enter Tryz.func36, Tryz.ntmps36
  go_wp2_with fail
  go_quiet ((go_at_call 26; exact quiet_calls (BL.out _)))
  go_wp2_with fail
  go_ret
  exact ⟨rfl, H.out.keep ((Upd.refl [] w).drewN _), (Upd.refl [] w).drewN _⟩
/-- Which cleanness a page of the newest segment has. -/
theorem clean_page {s : FS} {F B b p : Nat} (hd : s.dead = false) (hb : b < B) (hp : p < 8) : pcleanV s F B ((512 * b + 64 * p : Nat) : Int) 64 = (clnL (s.blk F b) (7 - p), 0) := by
  have hin : inB (B : Int) ((512 * b + 64 * p : Nat) : Int) 64 = true := by rw [inB_iff]; omega
  unfold pcleanV preadV
  rw [if_pos hin, hd]
  simp only [Bool.false_eq_true, if_false, if_true]
  have e : (512 * (F : Int) + ((512 * b + 64 * p : Nat) : Int)).toNat = 512 * (F + b) + 64 * p := by omega
  rw [e]
  have hc : ((s.blk F b).drop (64 * p)).take 64 = (s.b.drop (512 * (F + b) + 64 * p)).take 64 := by
    unfold FS.blk
    rw [List.drop_take, List.drop_drop, List.take_take, show min 64 (512 - 64 * p) = 64 by omega]
  show ((((ffs _ : Nat) : Int) == ((ByteArray.size _ : Nat) : Int)), (0 : Int)) = _
  congr 1
  unfold clnL
  rw [show 7 - (7 - p) = p by omega, hc]
  rw [show (64 : Int).toNat = 64 from rfl]
  generalize (s.b.drop (512 * (F + b) + 64 * p)).take 64 = x
  rw [show (ByteArray.size ⟨x.toArray⟩ : Nat) = x.length from rfl, Bool.eq_iff_iff, beq_iff_eq, List.all_eq_true]
  constructor
  · intro h u hu
    obtain ⟨k, hk, hk2⟩ := List.mem_iff_getElem.1 hu
    have := ffs_lt x h k hk
    rw [List.getElem?_eq_getElem hk, hk2] at this
    rw [beq_iff_eq]; exact Option.some.inj this
  · intro h
    rw [ffs_all x fun k hk => by rw [List.getElem?_eq_getElem hk]; exact congrArg some (beq_iff_eq.1 (h _ (List.getElem_mem hk)))]
set_option maxHeartbeats 2000000 in
theorem lroom_any (g q p bb cb : Nat) (F B : Nat) (v : Value) (s : FS) (l : LS) (w : World) (h : LgS w (F : Nat) (B : Nat) g q p bb cb v s l) (hk : l.Ok B) :
    Calls Tryz.prog 37 #[.pointer (some ⟨g, 0, none⟩)] w fun e w' => e = .returned (.int .i64 ((s.lroom F l : Nat) : Int)) ∧ LgS w' (F : Nat) (B : Nat) g q p bb cb v s l ∧ Upd [] w w' := by
  have hB : B ≤ 256 := by have h1 := h.i.hi; have h2 := h.i.lo; have h3 := h.i.few; omega
  have hnb : l.newest.1 < B := hk.blk _ (LS.newest_mem hk.ne)
  have NW := Box.mk (fun w h => lnewest_any g q p bb cb (F : Nat) (B : Nat) v s l w h hk.ne (by have := hk.few; omega))
  have CP := Box.mk (fun (hd : s.dead = false) p (hp : p < 8) => clean_page (F := F) hd hnb hp)
  obtain ⟨R, hR⟩ : ∃ R, R = s.lroom F l := ⟨_, rfl⟩
  rw [← hR]
  have HR0 := Box.mk hR
  have H0 := Box.mk h
  unfold FS.lroom at HR0
  obtain ⟨nn, hnn⟩ : ∃ n, n = l.newest := ⟨_, rfl⟩
  rw [← hnn] at NW CP HR0 hnb
  obtain ⟨nb, nv⟩ := nn
  dsimp only at NW CP HR0 hnb
  have hnI : (nb : Int) < 256 := by omega
  have HNB := Box.mk hnb
  clear h hk hR hnb hnn
  go_enter Tryz.func37, Tryz.ntmps37
  go_wp2_with fail
  go_loopw [3, 4] (fun n i wr => ∃ j : Nat, j ≤ 7 ∧ n = .int .i64 (j : Nat) ∧ i = .int .i64 ((7 - j : Nat) : Int) ∧ (s.dead = false → ∀ k, k < j → clnL (s.blk F nb) k = true) ∧ (s.dead = true → j = 0) ∧ LgS wr (F : Nat) (B : Nat) g q p bb cb v s l ∧ Upd [] w wr) (fun _ i _ => (intOf i).toNat)
  case atStart => exact ⟨0, by omega, rfl, rfl, fun _ k hk => absurd hk (by omega), fun _ => rfl, H0.out, Upd.refl _ _⟩
  case round =>
    obtain ⟨j, hj, rfl, rfl, hall, hdd, hs, hu⟩ := hrel
    have HR := Box.mk hs; have HU := Box.mk hu; have HA := Box.mk hall; have HD := Box.mk hdd
    clear hs hu hall hdd
    by_cases h7 : j < 7
    · have hgo : 0 < ((7 - j : Nat) : Int) := by omega
      have hlt7 : ((7 - j : Nat) : Int) ≤ 7 := by omega
      obtain ⟨t, ht⟩ : ∃ t, t = 7 - j := ⟨_, rfl⟩
      rw [← ht] at hgo hlt7 ⊢
      obtain ⟨a, ha, HA1⟩ : ∃ a : Nat, IntKind.i64.wrap ((nb : Int) * 512) = (a : Int) ∧ Box (a = 512 * nb) := ⟨512 * nb, by rw [IntKind.wrap_i64]; omega, ⟨rfl⟩⟩
      obtain ⟨b, hb, HA2⟩ : ∃ b : Nat, IntKind.i64.wrap ((t : Int) * 64) = (b : Int) ∧ Box (b = 64 * t) := ⟨64 * t, by rw [IntKind.wrap_i64]; omega, ⟨rfl⟩⟩
      obtain ⟨c, hc, HA3⟩ : ∃ c : Nat, IntKind.i64.wrap ((a : Int) + (b : Int)) = (c : Int) ∧ Box (c = 512 * nb + 64 * t) := ⟨512 * nb + 64 * t, by rw [IntKind.wrap_i64, HA1.out, HA2.out]; omega, ⟨rfl⟩⟩
      have CL := Box.mk (fun w h => lpclean_any g q p bb cb (F : Nat) (B : Nat) v s l c 64 w h (by have := HA3.out; omega) (by omega))
      have HT := Box.mk ht
      clear ht
      go_wp2_with fail
      refine wp_region_mixS [] (fun w => LgS w (F : Nat) (B : Nat) g q p bb cb v s l) (fun w w' hg h => h.keep hg.upd) (HR.out.keep (Upd.refl [] wr).drew) ((by simp)) 16 [.flo, .flo, .flo, .flo, .flo, .cha, .flo, .flo, .flo, .flo, .flo, .cha, .flo, .flo, .flo, .flo] (by kernel_rfl) (by kernel_rfl) rfl ?_
      simp only [List.take, List.zip, List.zipWith]
      try go_frame
      refine gm_move (.tmp 0) (.inl rfl) (.pointer (some ⟨g, 0, none⟩)) rfl ?_
      try go_frame
      refine gm_flo (.pointer (some ⟨g, 0, none⟩)) (fun w1 hw1 => ?_) ?_
      case refine_1 =>
        go_simp
      try go_frame
      refine gm_flo (.pointer (some ⟨g, 0, none⟩)) (fun w1 hw1 => ?_) ?_
      case refine_1 =>
        go_simp
      try go_frame
      refine gm_flo (.pointer (some ⟨q, 0, none⟩)) (fun w1 hw1 => ?_) ?_
      case refine_1 =>
        have e1 : w1.cell? ⟨g, 0, none⟩ = some (.pointer (some ⟨q, 0, none⟩)) := (cell_of_row _ _ _ _ _ _ (hw1.at ((by simp)) HR.out.lg.row)).trans rfl
        go_simp
      try go_frame
      refine gm_move (.tmp 0) (.inl rfl) (.pointer (some ⟨g, 0, none⟩)) rfl ?_
      try go_frame
      refine gm_callS [.pointer (some ⟨g, 0, none⟩)] (by kernel_rfl) rfl rfl (fun w1 hw1 hF1 => (NW.out w1 hF1).mono ?_)
      rintro e w2 ⟨rfl, hf, hu⟩
      refine ⟨_, rfl, GrS.of_upd hu (by simp), ((fun w => LgS w (F : Nat) (B : Nat) g q p bb cb v s l)), ((fun w w' hg h => h.keep hg.upd)), (hf), ?_⟩
      clear hw1 hF1 hf hu w1 w2
      try go_frame
      refine gm_sel (.tmp 17) 0 rfl _ rfl (.int .i64 (nb : Nat)) (fun w => (seg_fld _ _ w).1) ?_
      try go_frame
      refine gm_flo (.int .i64 (a : Nat)) (fun w1 hw1 => ?_) ?_
      case refine_1 =>
        go_simp
      try go_frame
      refine gm_move (.tmp 4) (.inl rfl) (.int .i64 (t : Nat)) rfl ?_
      try go_frame
      refine gm_flo (.int .i64 (b : Nat)) (fun w1 hw1 => ?_) ?_
      case refine_1 =>
        go_simp
      try go_frame
      refine gm_flo (.int .i64 (c : Nat)) (fun w1 hw1 => ?_) ?_
      case refine_1 =>
        go_simp
      try go_frame
      refine gm_callS [.pointer (some ⟨q, 0, none⟩), .int .i64 (c : Nat), .int .i64 64] (by kernel_rfl) rfl rfl (fun w1 hw1 hF1 => (CL.out w1 hF1).mono ?_)
      rintro e w2 ⟨rfl, hf, hu⟩
      refine ⟨_, rfl, GrS.of_upd hu (by simp), ((fun w => LgS w (F : Nat) (B : Nat) g q p bb cb v s l)), ((fun w w' hg h => h.keep hg.upd)), (hf), ?_⟩
      clear hw1 hF1 hf hu w1 w2
      try go_frame
      refine gm_move (.tmp 23) (.inl rfl) (.tuple #[.bool (pcleanV s (F : Nat) (B : Nat) (c : Nat) 64).1, .int .i64 (pcleanV s (F : Nat) (B : Nat) (c : Nat) 64).2]) rfl ?_
      try go_frame
      refine gm_extract (vs := #[.bool (pcleanV s (F : Nat) (B : Nat) (c : Nat) 64).1, .int .i64 (pcleanV s (F : Nat) (B : Nat) (c : Nat) 64).2]) (.tmp 11) 0 rfl rfl (.bool (pcleanV s (F : Nat) (B : Nat) (c : Nat) 64).1) rfl ?_
      try go_frame
      refine gm_extract (vs := #[.bool (pcleanV s (F : Nat) (B : Nat) (c : Nat) 64).1, .int .i64 (pcleanV s (F : Nat) (B : Nat) (c : Nat) 64).2]) (.tmp 11) 1 rfl rfl (.int .i64 (pcleanV s (F : Nat) (B : Nat) (c : Nat) 64).2) rfl ?_
      try go_frame
      refine gm_move (.tmp 24) (.inr rfl) (.bool (pcleanV s (F : Nat) (B : Nat) (c : Nat) 64).1) rfl ?_
      try go_frame
      refine gm_nil ?_
      intro w9 hw9 hF9
      simp only [List.drop]
      try go_frame
      have H9 := Box.mk hF9; have U9 := Box.mk (HU.out.trans ((Upd.refl [] wr).drew.trans hw9.upd))
      clear hF9 hw9
      cases hdd : s.dead with
      | true =>
        have hv : pcleanV s (F : Nat) (B : Nat) (c : Nat) (64 : Nat) = (false, 2) := by
          unfold pcleanV preadV
          rw [if_pos ((inB_iff _ _ _).2 (by have := HA3.out; have := HT.out; have := HNB.out; omega)), hdd]; rfl
        rw [show (64 : Int) = ((64 : Nat) : Int) from rfl, hv]
        have hr := HR0.out
        rw [hdd, if_pos rfl] at hr
        have HR1 := Box.mk hr
        clear hr hv hdd
        go_wp2_with fail
        go_ret
        exact ⟨by rw [HR1.out]; rfl, H9.out, U9.out⟩
      | false =>
        have hv : pcleanV s (F : Nat) (B : Nat) (c : Nat) (64 : Nat) = (clnL (s.blk F nb) j, 0) := by
          rw [HA3.out, show (((64 : Nat)) : Int) = (64 : Int) from rfl, CP.out hdd t (by have := HT.out; omega), show 7 - t = j by have := HT.out; omega]
        rw [show (64 : Int) = ((64 : Nat) : Int) from rfl, hv]
        have hr := HR0.out
        rw [hdd, if_neg (by decide)] at hr
        have HDD := Box.mk hdd
        cases hcl : clnL (s.blk F nb) j with
        | true =>
          have HCL := Box.mk hcl
          have HT1 : ((t : Int) - 1) = ((7 - (j + 1) : Nat) : Int) := by have := HT.out; omega
          have hwt : IntKind.i64.wrap ((t : Int) - 1) = ((7 - (j + 1) : Nat) : Int) := by rw [IntKind.wrap_i64]; omega
          clear hr hv hdd hcl
          go_wp2_with fail
          exact ⟨⟨j + 1, by omega, by go_num, by first | rfl | (congr 1; omega), fun _ k hk => by
            rcases Nat.lt_succ_iff_lt_or_eq.1 hk with h | rfl
            · exact HA.out HDD.out k h
            · exact HCL.out, fun h => absurd (h.symm.trans HDD.out) (by decide), H9.out, U9.out⟩, by have := HT.out; simp [intOf]; omega⟩
        | false =>
          have HR1 : Box (R = j) := ⟨by rw [hr]; exact runB_spec _ _ _ (by omega) (HA.out hdd) (.inr hcl)⟩
          clear hr hv hdd hcl
          go_wp2_with fail
          go_ret
          exact ⟨by rw [HR1.out]; rfl, H9.out, U9.out⟩
    · have hgo : ¬ 0 < ((7 - j : Nat) : Int) := by omega
      have HR1 : Box (R = j) := ⟨by
        rw [HR0.out]
        cases hdd : s.dead with
        | true => rw [if_pos rfl]; exact (HD.out hdd).symm
        | false => rw [if_neg (by decide)]; exact runB_spec _ _ _ hj (HA.out hdd) (.inl (by omega))⟩
      go_wp2_with fail
      go_ret
      exact ⟨by rw [HR1.out]; rfl, HR.out, HU.out⟩
end Go.Proofs.YtjednaendedpdaaGreat
namespace Go.Proofs.YtjednaendedpdaaGreat
set_option maxRecDepth 100000
set_option linter.unusedVariables false
open Go Go.RowKit

/-- One step more, in blocks that are named or new. -/
theorem Upd.ext {S T : List Nat} {a b c : World} (h : Upd S a b) (k : Upd T b c) (hT : ∀ i, i ∈ T → i ∈ S ∨ a.heap.size ≤ i) : Upd S a c :=
  ⟨k.os.trans h.os, k.tape.trans h.tape, k.output.trans h.output, Nat.le_trans h.size k.size, fun i hi hn => (k.block i (Nat.lt_of_lt_of_le hi h.size) (fun hm => by
    rcases hT i hm with h' | h'
    · exact hn h'
    · omega)).trans (h.block i hi hn)⟩
theorem lcleans_stay (s : FS) (F B : Int) (l : LS) (k : Nat) (h : (FS.lcleans s F B l k).2.2 ≠ 0) : ∀ m, FS.lcleans s F B l (k + m) = FS.lcleans s F B l k
  | 0 => rfl
  | m + 1 => by
    rw [show k + (m + 1) = (k + m) + 1 by omega, FS.lcleans, lcleans_stay s F B l k h m, if_pos h]
/-- What Format leaves. -/
def LFmt (F B : Int) (q p bb cb : Nat) (w : World) (r : FS × LS × Int) (e : Ending) (w' : World) : Prop :=
  Fl 89 w' p bb cb r.1 ∧ r.1.Ok ∧ Upd [p, bb, cb] w w' ∧
  ((r.2.2 ≠ 0 ∧ e = .returned (.tuple #[.pointer none, .int .i64 r.2.2])) ∨ (r.2.2 = 0 ∧ ∃ g v, e = .returned (.tuple #[.pointer (some ⟨g, 0, none⟩), .int .i64 0]) ∧ LgS w' F B g q p bb cb v r.1 r.2.1 ∧ w.heap.size ≤ g ∧ ∀ k, v.ownBlock = some k → w.heap.size ≤ k))
set_option maxHeartbeats 2000000 in
theorem lformat_any (q p bb cb : Nat) (F B : Nat) (s : FS) (w : World) (hf : Fl 89 w p bb cb s) (hok : s.Ok) (hp : Pa w q p (F : Nat) (B : Nat)) (hi : In s.n.length (F : Nat) (B : Nat)) (hq : q ∉ [p, bb, cb]) :
    Calls Tryz.prog 48 #[.pointer (some ⟨q, 0, none⟩)] w (LFmt (F : Nat) (B : Nat) q p bb cb w (s.lformat F B)) := by
  have hB : B ≤ 256 := by have h1 := hi.hi; have h2 := hi.lo; have h3 := hi.few; omega
  have hl0 := hf.lt; have hl1 := hp.lt
  obtain ⟨g, hg⟩ : ∃ g, g = w.heap.size := ⟨_, rfl⟩
  have u0 : Upd [p, bb, cb] w (w.alloc (.cells #[.pointer (some ⟨q, 0, none⟩), .slice none 0 0, .bool false] 73)) := (Upd.refl _ _).alloc _
  have L0 := Box.mk (show LgS (w.alloc (.cells #[.pointer (some ⟨q, 0, none⟩), .slice none 0 0, .bool false] 73)) (F : Nat) (B : Nat) g q p bb cb (.slice none 0 0) s ⟨[], false⟩ from
    ⟨⟨by simp only [List.mem_cons, List.not_mem_nil, or_false, not_or] at hq ⊢; omega, by simp only [List.mem_cons, List.not_mem_nil, or_false, not_or]; omega, fun k hk => by simp [Value.ownBlock] at hk⟩,
      hf.upd ((Upd.refl [] _).alloc _) (by simp) (by simp) (by simp), hok, hp.upd ((Upd.refl [] _).alloc _) (by simp), hi, ⟨by rw [hg]; exact heap_alloc_new _ _, World.ownsRow_nil _ _ _ _⟩⟩)
  have U0 := Box.mk u0
  have HG := Box.mk (show w.heap.size ≤ g by omega)
  have BL := Box.mk (fun s l v w (h : LgS w (F : Nat) (B : Nat) g q p bb cb v s l) => lblocks_any g q p (F : Nat) (B : Nat) s.n.length v l w h.lg h.pa h.i)
  obtain ⟨R, hR⟩ : ∃ R, R = s.lformat F B := ⟨_, rfl⟩
  rw [← hR]
  unfold FS.lformat at hR
  have HBx := Box.mk hB
  have EXT : Box (∀ i, i ∈ [g, p, bb, cb] → i ∈ [p, bb, cb] ∨ w.heap.size ≤ i) := ⟨fun i hi => by
    rcases List.mem_cons.1 hi with rfl | hi
    · exact .inr (by omega)
    · exact .inl hi⟩
  have hgw : w.heap.size = g := hg.symm
  clear hf hok hp hi hq u0 hl0 hl1 hg
  by_cases h4 : B < 4
  · have h4I : decide ((B : Int) < 4) = true := by rw [decide_eq_true_eq]; omega
    rw [if_pos h4] at hR
    have HR := Box.mk hR
    clear hR h4 hB
    go_enter Tryz.func48, Tryz.ntmps48
    go_wp2_with fail
    refine (BL.out _ _ _ _ L0.out).mono ?_
    rintro e w1 ⟨rfl, rfl⟩
    go_wp2_with fail
    go_ret2
    rw [HR.out]
    exact ⟨L0.out.f, L0.out.ok, U0.out, .inl ⟨by show (140 : Int) ≠ 0; decide, rfl⟩⟩
  · have h4I : decide ((B : Int) < 4) = false := by rw [decide_eq_false_iff_not]; omega
    rw [if_neg h4] at hR
    have HR := Box.mk hR
    clear hR h4 hB
    go_enter Tryz.func48, Tryz.ntmps48
    go_wp2_with fail
    refine (BL.out _ _ _ _ L0.out).mono ?_
    rintro e w1 ⟨rfl, rfl⟩
    go_wp2_with fail
    refine (BL.out _ _ _ _ L0.out).mono ?_
    rintro e w1 ⟨rfl, rfl⟩
    go_wp2_with fail
    go_loopw [16] (fun i wr => ∃ j : Nat, j ≤ B ∧ i = .int .i64 (j : Nat) ∧ (FS.lcleans s F B ⟨[], false⟩ j).2.2 = 0 ∧ LgS wr (F : Nat) (B : Nat) g q p bb cb (.slice none 0 0) (FS.lcleans s F B ⟨[], false⟩ j).1 (FS.lcleans s F B ⟨[], false⟩ j).2.1 ∧ Upd [p, bb, cb] w wr) (fun i _ => B - (intOf i).toNat)
    case atStart => exact ⟨0, by omega, rfl, rfl, L0.out, U0.out⟩
    case round =>
      clear L0 U0
      obtain ⟨j, hj, rfl, he0, hs, hu⟩ := hrel
      have HS := Box.mk hs; have HU := Box.mk hu; have HE := Box.mk he0
      clear hs hu he0
      by_cases hlt : j < B
      · have hltI : (j : Int) < (B : Int) := by omega
        have CL := Box.mk (lclean_any g q p bb cb (F : Nat) (B : Nat) (.slice none 0 0) (FS.lcleans s F B ⟨[], false⟩ j).1 (FS.lcleans s F B ⟨[], false⟩ j).2.1 j wr HS.out (by have := HBx.out; omega))
        have HN : Box (FS.lcleans s F B ⟨[], false⟩ (j + 1) = (FS.lcleans s F B ⟨[], false⟩ j).1.lclean F B (FS.lcleans s F B ⟨[], false⟩ j).2.1 j) := ⟨by rw [FS.lcleans, if_neg (by rw [HE.out]; decide)]⟩
        generalize (FS.lcleans s F B ⟨[], false⟩ j).1.lclean F B (FS.lcleans s F B ⟨[], false⟩ j).2.1 j = c at CL HN
        obtain ⟨c1, c2, c3⟩ := c
        dsimp only at CL
        by_cases hc : c3 = 0
        · have hcb : (c3 != 0) = false := by simpa using hc
          have HC := Box.mk hc
          have HL := Box.mk hlt
          have hB256 : (B : Int) ≤ 256 := by have := HBx.out; omega
          clear hc hlt
          go_wp2_with fail
          refine CL.out.mono ?_
          rintro e w1 ⟨rfl, hs, hu⟩
          have HS1 := Box.mk hs; have HU1 := Box.mk (HU.out.ext hu EXT.out)
          clear hs hu HS HU CL
          go_wp2_with fail
          exact ⟨⟨j + 1, HL.out, by go_num, by rw [HN.out]; exact HC.out, by rw [HN.out]; exact HS1.out, HU1.out⟩, by have := HL.out; simp [intOf]; omega⟩
        · have hcb : (c3 != 0) = true := by rw [bne_iff_ne]; exact hc
          have HR1 : Box (R = (c1, c2, c3)) := ⟨by
            have e : FS.lcleans s F B ⟨[], false⟩ B = (c1, c2, c3) := by
              have := lcleans_stay s F B ⟨[], false⟩ (j + 1) (by rw [HN.out]; exact hc) (B - (j + 1))
              rw [show j + 1 + (B - (j + 1)) = B by omega] at this
              rw [this]; exact HN.out
            rw [HR.out]
            show (if (FS.lcleans s F B ⟨[], false⟩ B).2.2 ≠ 0 then _ else _) = _
            rw [e, if_pos hc]⟩
          have HC := Box.mk hc
          clear hc hlt
          go_wp2_with fail
          refine CL.out.mono ?_
          rintro e w1 ⟨rfl, hs, hu⟩
          have HS1 := Box.mk hs; have HU1 := Box.mk (HU.out.ext hu EXT.out)
          clear hs hu HS HU CL
          go_wp2_with fail
          go_ret2
          rw [HR1.out]
          exact ⟨HS1.out.f, HS1.out.ok, HU1.out, .inl ⟨HC.out, rfl⟩⟩
      · have hltI : ¬ (j : Int) < (B : Int) := by omega
        obtain rfl : j = B := by omega
        have MK := Box.mk (lmakes_any g q p bb cb (F : Nat) (j : Nat) (.slice none 0 0) (FS.lcleans s F j ⟨[], false⟩ j).1 (FS.lcleans s F j ⟨[], false⟩ j).2.1 0 1 wr HS.out (by omega) (by omega) (by
          have : ∀ m, (FS.lcleans s F j ⟨[], false⟩ m).2.1.segs = [] := fun m => by
            induction m with
            | zero => rfl
            | succ m ih => rw [FS.lcleans]; split; exact ih; exact ih
          rw [this]; decide))
        have HR1 : Box (R = (FS.lcleans s F j ⟨[], false⟩ j).1.lmakes F j (FS.lcleans s F j ⟨[], false⟩ j).2.1 0 1) := ⟨by
          rw [HR.out]
          show (if (FS.lcleans s F j ⟨[], false⟩ j).2.2 ≠ 0 then _ else _) = _
          rw [if_neg (by rw [HE.out]; decide)]⟩
        generalize (FS.lcleans s F j ⟨[], false⟩ j).1.lmakes F j (FS.lcleans s F j ⟨[], false⟩ j).2.1 0 1 = m at MK HR1
        obtain ⟨m1, m2, m3⟩ := m
        dsimp only at MK
        obtain ⟨rfl⟩ := HR1
        have FP : Box (∀ i, i ∈ fp g (.slice none 0 0) p bb cb → i ∈ [p, bb, cb] ∨ w.heap.size ≤ i) := ⟨fun i hi => by
          unfold fp at hi
          simp only [Value.ownBlock, Option.toList, List.mem_cons, List.not_mem_nil, or_false] at hi ⊢
          rcases hi with rfl | hi
          · exact .inr HG.out
          · exact .inl hi⟩
        have OG : Box (w.heap.size ≤ wr.heap.size) := ⟨HU.out.size⟩
        clear hlt
        by_cases hm : m3 = 0
        · have hmb : (m3 != 0) = false := by simpa using hm
          have HM := Box.mk hm
          clear hm
          go_wp2_with fail
          refine MK.out.mono ?_
          rintro e w1 ⟨rfl, ⟨v', hs, hv⟩, hu⟩
          have HS1 := Box.mk hs; have HU1 := Box.mk (HU.out.ext hu FP.out); have HV := Box.mk hv
          clear hs hu hv HS HU MK
          go_wp2_with fail
          go_ret2
          exact ⟨HS1.out.f, HS1.out.ok, HU1.out, .inr ⟨HM.out, g, v', rfl, HS1.out, HG.out, fun k hk => by
            rcases HV.out k hk with h | h
            · simp [Value.ownBlock] at h
            · have := OG.out; omega⟩⟩
        · have hmb : (m3 != 0) = true := by rw [bne_iff_ne]; exact hm
          have HM := Box.mk hm
          clear hm
          go_wp2_with fail
          refine MK.out.mono ?_
          rintro e w1 ⟨rfl, ⟨v', hs, hv⟩, hu⟩
          have HS1 := Box.mk hs; have HU1 := Box.mk (HU.out.ext hu FP.out)
          clear hs hu hv HS HU MK
          go_wp2_with fail
          go_ret2
          exact ⟨HS1.out.f, HS1.out.ok, HU1.out, .inl ⟨HM.out, rfl⟩⟩
end Go.Proofs.YtjednaendedpdaaGreat
namespace Go.Proofs.YtjednaendedpdaaGreat
set_option maxRecDepth 100000
set_option linter.unusedVariables false
open Go Go.RowKit

/-- The records of n pages from p on. -/
def recN (s : List UInt8) : Nat → Nat → List (List UInt8)
  | 0, _ => []
  | n + 1, p => if hdrL s p = true then (recL s p).1 :: recN s n (p + 1) else recN s n (p + 1)
theorem recN_add (s : List UInt8) : ∀ (m n p : Nat), recN s (m + n) p = recN s m p ++ recN s n (p + m)
  | 0, n, p => by simp [recN]
  | m + 1, n, p => by
    rw [show m + 1 + n = (m + n) + 1 by omega, recN, recN, recN_add s m n (p + 1), show p + 1 + m = p + (m + 1) by omega]
    split <;> rfl
theorem recN_none (s : List UInt8) : ∀ (n p : Nat), (∀ i, i < n → hdrL s (p + i) = false) → recN s n p = []
  | 0, p, _ => rfl
  | n + 1, p, h => by
    have h0 := h 0 (by omega)
    rw [Nat.add_zero] at h0
    rw [recN, h0, if_neg (by decide), recN_none s n (p + 1) (fun i hi => by have := h (i + 1) (by omega); rwa [show p + 1 + i = p + (i + 1) by omega])]
theorem recN_congr {s s' : List UInt8} : ∀ (n p : Nat), (∀ i, i < n → hdrL s' (p + i) = hdrL s (p + i) ∧ (hdrL s (p + i) = true → recL s' (p + i) = recL s (p + i))) → recN s' n p = recN s n p
  | 0, p, _ => rfl
  | n + 1, p, h => by
    obtain ⟨h0, h1⟩ := h 0 (by omega)
    rw [Nat.add_zero] at h0 h1
    rw [recN, recN, h0, recN_congr n (p + 1) (fun i hi => by have := h (i + 1) (by omega); rwa [show p + 1 + i = p + (i + 1) by omega])]
    by_cases hh : hdrL s p = true
    · rw [if_pos hh, if_pos hh, h1 hh]
    · rw [if_neg hh, if_neg hh]
/-- Each head is a record's. -/
def Good (s : List UInt8) : Prop := ∀ p, 1 ≤ p → p < 8 → hdrL s p = true → (recL s p).2 ≠ 0
theorem recL_no {s : List UInt8} {p : Nat} (h : hdrL s p = false) : recL s p = ([], 0) := by unfold recL; rw [if_pos h]
theorem goes_of {s : List UInt8} {p n : Nat} (h : ¬ runB (goesL s p) n < n) : ∀ k, k < n → goesL s p k = true := fun k hk => runB_true n _ k (by omega)
structure RecAt (s : List UInt8) (p m : Nat) (r : List UInt8) : Prop where
  hdr : hdrL s p = true
  m1 : m = pgs (lenL s p)
  m0 : m ≠ 0
  le : p + m ≤ 8
  go : ∀ k, k < m - 1 → goesL s p k = true
  r : r = (bodyL s p m).take (lenL s p)
theorem recL_at {s : List UInt8} {p : Nat} (h : (recL s p).2 ≠ 0) : RecAt s p (recL s p).2 (recL s p).1 := by
  by_cases h1 : hdrL s p = false
  · rw [recL_no h1] at h; exact absurd rfl h
  · have h1' : hdrL s p = true := by simpa using h1
    unfold recL at h ⊢
    rw [if_neg h1] at h ⊢
    by_cases h2 : pgs (lenL s p) = 0 ∨ 8 < p + pgs (lenL s p)
    · rw [if_pos h2] at h; exact absurd rfl h
    · rw [if_neg h2] at h ⊢
      by_cases h3 : runB (goesL s p) (pgs (lenL s p) - 1) < pgs (lenL s p) - 1
      · rw [if_pos h3] at h; exact absurd rfl h
      · rw [if_neg h3] at h ⊢
        exact ⟨h1', rfl, h, by omega, goes_of h3, rfl⟩
theorem RecAt.eq {s : List UInt8} {p m : Nat} {r : List UInt8} (h : RecAt s p m r) : recL s p = (r, m) := by
  unfold recL
  obtain ⟨h1, h2, h3, h4, h5, h6⟩ := h
  rw [if_neg (by rw [h1]; decide), if_neg (by omega), if_neg (by rw [← h2, runB_spec _ _ (m - 1) (Nat.le_refl _) h5 (.inl rfl)]; omega), ← h2, ← h6]
theorem goes_hdr {s : List UInt8} {p k : Nat} (h : goesL s p k = true) : hdrL s (p + 1 + k) = false := by
  unfold goesL at h; unfold hdrL
  rw [beq_iff_eq] at h
  rw [h]; rfl
theorem recs_good {s : List UInt8} (h : Good s) : ∀ (f p : Nat), 1 ≤ p → 8 ≤ f + p → recsFrom s f p = recN s (8 - p) p
  | 0, p, h1, h2 => by rw [show 8 - p = 0 by omega]; rfl
  | f + 1, p, h1, h2 => by
    rw [recsFrom]
    by_cases hp : p < 8
    · rw [if_pos hp]
      by_cases hh : hdrL s p = true
      · have hr := h p h1 hp hh
        have ha := recL_at hr
        have hle := ha.le; have hm0 := ha.m0
        rw [if_neg hr, recs_good h f (p + (recL s p).2) (by omega) (by omega)]
        rw [show 8 - p = ((recL s p).2 - 1 + (8 - (p + (recL s p).2))) + 1 by omega, recN, if_pos hh, recN_add, recN_none s ((recL s p).2 - 1) (p + 1) (fun i hi => goes_hdr (ha.go i hi)), List.nil_append, show p + 1 + ((recL s p).2 - 1) = p + (recL s p).2 by omega]
      · have hf : hdrL s p = false := by simpa using hh
        rw [recL_no hf, if_pos rfl, recs_good h f (p + 1) (by omega) (by omega), show 8 - p = (8 - (p + 1)) + 1 by omega, recN, hf, if_neg (by decide)]
    · rw [if_neg hp, show 8 - p = 0 by omega]; rfl
theorem recsL_good {s : List UInt8} (h : Good s) : recsL s = recN s 7 1 := recs_good h 8 1 (Nat.le_refl _) (by omega)

/-- Two lists agree below n. -/
def Agr (s s' : List UInt8) (n : Nat) : Prop := ∀ k, k < n → s'[k]? = s[k]?
theorem Agr.mono {s s' : List UInt8} {n m : Nat} (h : Agr s s' n) (hm : m ≤ n) : Agr s s' m := fun k hk => h k (by omega)
theorem Agr.getD {s s' : List UInt8} {n k : Nat} (h : Agr s s' n) (hk : k < n) : s'.getD k 0 = s.getD k 0 := by rw [List.getD_eq_getElem?_getD, List.getD_eq_getElem?_getD, h k hk]
theorem Agr.cut {s s' : List UInt8} {n a m : Nat} (h : Agr s s' n) (hk : a + m ≤ n) : (s'.drop a).take m = (s.drop a).take m := by
  apply List.ext_getElem?; intro i
  rw [List.getElem?_take, List.getElem?_take, List.getElem?_drop, List.getElem?_drop]
  by_cases hi : i < m
  · rw [if_pos hi, if_pos hi, h _ (by omega)]
  · rw [if_neg hi, if_neg hi]
theorem Agr.hdr {s s' : List UInt8} {b p : Nat} (h : Agr s s' (64 * b)) (hp : p < b) : hdrL s' p = hdrL s p := by
  unfold hdrL; rw [h.getD (by omega), h.getD (by omega)]
theorem Agr.len {s s' : List UInt8} {b p : Nat} (h : Agr s s' (64 * b)) (hp : p < b) : lenL s' p = lenL s p := by
  unfold lenL; rw [h.cut (by omega)]
theorem Agr.body {s s' : List UInt8} {b p : Nat} (h : Agr s s' (64 * b)) : ∀ m, p + m ≤ b → bodyL s' p m = bodyL s p m
  | 0, _ => rfl
  | 1, hm => by rw [bodyL, bodyL, h.cut (by omega)]
  | m + 2, hm => by
    show bodyL s' p (m + 1) ++ _ = bodyL s p (m + 1) ++ _
    rw [h.body (m + 1) (by omega), h.cut (by omega)]
theorem Agr.rec {s s' : List UInt8} {b p : Nat} (h : Agr s s' (64 * b)) (hr : (recL s p).2 ≠ 0) (hb : p + (recL s p).2 ≤ b) : recL s' p = recL s p := by
  have ha := recL_at hr
  have := ha.m0
  have e : RecAt s' p (recL s p).2 (recL s p).1 := ⟨by rw [h.hdr (by omega)]; exact ha.hdr, by rw [h.len (by omega)]; exact ha.m1, ha.m0, ha.le, fun k hk => by
    have := ha.go k hk
    unfold goesL at this ⊢
    rw [h.getD (by omega)]; exact this, by rw [h.body _ hb, h.len (by omega)]; exact ha.r⟩
  rw [e.eq]
/-- Pages from a on are erased. -/
def Cln (s : List UInt8) (a : Nat) : Prop := ∀ p, a ≤ p → p < 8 → s.getD (64 * p) 0 = 255
theorem Cln.hdr {s : List UInt8} {a p : Nat} (h : Cln s a) (h1 : a ≤ p) (h2 : p < 8) : hdrL s p = false := by
  unfold hdrL; rw [h p h1 h2]; rfl
theorem RecAt.below {s : List UInt8} {p m a : Nat} {r : List UInt8} (h : RecAt s p m r) (hc : Cln s a) (hp : p < a) : p + m ≤ a := by
  rcases Nat.lt_or_ge a (p + m) with hlt | hge
  · exfalso
    have hle := h.le
    have hg := h.go (a - p - 1) (by omega)
    unfold goesL at hg
    rw [show p + 1 + (a - p - 1) = a by omega, hc a (Nat.le_refl _) (by omega)] at hg
    exact absurd hg (by decide)
  · exact hge
/-- What changes behind the last record's page changes no record. -/
theorem keep_recs {s s' : List UInt8} {a : Nat} (hg : Good s) (hc : Cln s a) (h1 : 1 ≤ a) (h8 : a ≤ 8) (ha : Agr s s' (64 * a)) :
    (∀ p, 1 ≤ p → p < a → hdrL s' p = hdrL s p ∧ (hdrL s p = true → recL s' p = recL s p)) ∧ recN s' (a - 1) 1 = recN s 7 1 := by
  have hh : ∀ p, 1 ≤ p → p < a → hdrL s' p = hdrL s p ∧ (hdrL s p = true → recL s' p = recL s p) := fun p hp1 hp2 => ⟨ha.hdr hp2, fun h => by
    have hr := hg p hp1 (by omega) h
    exact ha.rec hr ((recL_at hr).below hc hp2)⟩
  refine ⟨hh, ?_⟩
  rw [show 7 = (a - 1) + (8 - a) by omega, recN_add, recN_none s (8 - a) (1 + (a - 1)) (fun i hi => hc.hdr (by omega) (by omega)), List.append_nil]
  exact recN_congr _ _ fun i hi => hh (1 + i) (by omega) (by omega)
/-- .. where no head comes. -/
theorem torn_recs {s s' : List UInt8} {a : Nat} (hg : Good s) (hc : Cln s a) (h1 : 1 ≤ a) (h8 : a ≤ 8) (ha : Agr s s' (64 * a)) (hn : ∀ p, a ≤ p → p < 8 → hdrL s' p = false) : Good s' ∧ recN s' 7 1 = recN s 7 1 := by
  obtain ⟨h, e⟩ := keep_recs hg hc h1 h8 ha
  refine ⟨fun p hp1 hp2 hh => ?_, ?_⟩
  · rcases Nat.lt_or_ge p a with hlt | hge
    · obtain ⟨e1, e2⟩ := h p hp1 hlt
      rw [e1] at hh
      rw [e2 hh]; exact hg p hp1 hp2 hh
    · rw [hn p hge hp2] at hh; exact absurd hh (by decide)
  · rw [show 7 = (a - 1) + (8 - a) by omega, recN_add, recN_none s' (8 - a) (1 + (a - 1)) (fun i hi => hn _ (by omega) (by omega)), List.append_nil, e]
    congr 1; omega
/-- .. where a record comes. -/
theorem new_rec {s s' : List UInt8} {a m : Nat} {r : List UInt8} (hg : Good s) (hc : Cln s a) (h1 : 1 ≤ a) (h8 : a < 8) (ha : Agr s s' (64 * a)) (hr : RecAt s' a m r) (hn : ∀ p, a + m ≤ p → p < 8 → hdrL s' p = false) : Good s' ∧ recN s' 7 1 = recN s 7 1 ++ [r] := by
  obtain ⟨h, e⟩ := keep_recs hg hc h1 (by omega) ha
  have hz : ∀ p, a < p → p < 8 → hdrL s' p = false := fun p hp1 hp2 => by
    rcases Nat.lt_or_ge p (a + m) with hlt | hge
    · have := goes_hdr (hr.go (p - a - 1) (by omega))
      rwa [show a + 1 + (p - a - 1) = p by omega] at this
    · exact hn p hge hp2
  refine ⟨fun p hp1 hp2 hh => ?_, ?_⟩
  · rcases Nat.lt_trichotomy p a with hlt | rfl | hgt
    · obtain ⟨e1, e2⟩ := h p hp1 hlt
      rw [e1] at hh
      rw [e2 hh]; exact hg p hp1 hp2 hh
    · rw [hr.eq]; exact hr.m0
    · rw [hz p hgt hp2] at hh; exact absurd hh (by decide)
  · have e7 : recN s' 7 1 = recN s' ((a - 1) + ((8 - a - 1) + 1)) 1 := by congr 1; omega
    rw [e7, recN_add, recN, show 1 + (a - 1) = a by omega, hr.hdr, if_pos rfl, hr.eq, recN_none s' (8 - a - 1) (a + 1) (fun i hi => hz _ (by omega) (by omega)), e]
/-- A record's length, out of its pages. -/
theorem pgs_pos {n : Nat} (h : n ≤ 400) : 1 ≤ pgs n ∧ pgs n ≤ 7 := by unfold pgs; split; omega; split <;> omega
end Go.Proofs.YtjednaendedpdaaGreat
namespace Go.Proofs.YtjednaendedpdaaGreat
set_option maxRecDepth 100000
set_option linter.unusedVariables false
open Go Go.RowKit

section
variable {P : Program} {W : World} {S : List Nat} {T : (World → Prop) → List Nat → Act → Prop} {L : List (Oper × Kd)} {F : World → Prop} {N : List Nat} {a : Act} {o : Oper}
theorem gm_oneL {ty e : TypeId} (x : Operand) (ho : o.op = .buildSlice ty 1 #[(0, x)]) (v : Value) (hx : a.eval x = v) (hr : ∀ w, (Instr.buildSlice ty 1 #[(0, v)]).run P w = .ok (.slice (some ⟨w.heap.size, 0, none⟩) 1 1) (w.alloc (.cells #[v] e))) (hF : Stb F)
    (h : ∀ b, W.heap.size ≤ b → wpG P W S T L (fun w => F w ∧ w.heap[b]? = some (.cells #[v] e (0, 0))) ([b] ++ N) (a.put o.dst (.slice (some ⟨b, 0, none⟩) 1 1))) : wpG P W S T ((o, .cha) :: L) F N a :=
  gm_val fun w hw hFw => ⟨_, _, by
    subst hx
    unfold execOp
    simp only [ho, Sem.run_bind, List.map_toArray, List.map_cons, List.map_nil, hr, Result.andThen_ok, Sem.run_pure], Gr.alloc _ _, _, [w.heap.size], hF.new _ _, ⟨hF _ _ (Gr.alloc _ _) hFw, heap_alloc_new _ _⟩, fun b hb => by simp at hb; subst hb; simp, h _ hw.size⟩
theorem gm_convL {src dst : TypeId} (x : Operand) (ho : o.op = .convert src dst x) (v : Value) (hF : Stb F) (hr : ∀ w, GrS S W w → F w → (convert src dst (a.eval x)).run P w = .ok v w)
    (h : wpG P W S T L F N (a.put o.dst v)) : wpG P W S T ((o, .cha) :: L) F N a :=
  gm_val fun w hw hFw => ⟨v, w, by unfold execOp; simp only [ho, Sem.run_bind, hr w hw hFw, Result.andThen_ok, Sem.run_pure], Gr.refl _, F, [], hF, hFw, (fun _ hb => by cases hb), h⟩
end
def pgS (r : ByteArray) (i : Nat) : ByteArray := ⟨(pageL r.data.toList i).toArray⟩
def lOff (j : Nat) : Nat := 60 + 63 * (j - 1)
theorem ba_ext {a b : ByteArray} (h : a.data.toList = b.data.toList) : a = b := ByteArray.ext (Array.toList_inj.1 h)
theorem ba_cut (r : ByteArray) (i j : Nat) : (r.extract i j).data.toList = (r.data.toList.drop i).take (j - i) := by
  rw [ByteArray.data_extract, Array.toList_extract, List.extract_eq_take_drop]
theorem cut_next (r : ByteArray) (o n : Nat) : (r.extract o r.size).extract (min (r.size - o) n) (r.size - o) = r.extract (o + n) r.size := by
  apply ba_ext
  have hs : r.data.toList.length = r.size := by simp
  rw [ba_cut, ba_cut, ba_cut]
  apply List.ext_getElem?; intro k
  simp only [List.getElem?_take, List.getElem?_drop]
  by_cases h1 : k < r.size - (o + n)
  · rw [if_pos (by omega), if_pos (by omega), if_pos h1]; congr 1; omega
  · rw [if_neg h1]
    split
    · split
      · rw [List.getElem?_eq_none]; omega
      · rfl
    · rfl
theorem cut_first (r : ByteArray) (o n : Nat) : ((r.extract o r.size).extract 0 (min (r.size - o) n)).data.toList = (r.data.toList.drop o).take n := by
  have hs : r.data.toList.length = r.size := by simp
  rw [ba_cut, ba_cut, List.drop_zero, List.take_take, Nat.sub_zero]
  apply List.ext_getElem?; intro k
  simp only [List.getElem?_take, List.getElem?_drop]
  by_cases h1 : k < n
  · rw [if_pos h1]
    split
    · rfl
    · rw [List.getElem?_eq_none]; omega
  · rw [if_neg h1, if_neg (by omega)]
theorem own_one {w : World} {base b : Nat} {e : TypeId} {u : Value} (h : w.heap[b]? = some (.cells #[u] e (0, 0))) (hb : base ≤ b) : w.ownsRow base e 1 (.slice (some ⟨b, 0, none⟩) 1 1) 1 [u] :=
  ⟨rfl, .inr ⟨b, 1, #[u], rfl, hb, h, Nat.le_refl _, by unfold maxLen; omega, rfl, rfl⟩⟩
theorem info_str : (Tryz.prog.info? 9).map (fun i => (i.zero, i.size, i.bytes)) = some (some (.string ⟨#[]⟩), 1, 16) := by kernel_rfl
set_option maxHeartbeats 2000000 in
theorem laidp_any (r : ByteArray) (hr : r.size ≤ 400) (w : World) :
    Calls Tryz.prog 54 #[.string r] w fun e w' => ∃ v, e = .returned v ∧ w'.ownsRow w.heap.size 9 1 v (pgs r.size) ((List.range (pgs r.size)).map fun i => .string (pgS r i)) ∧ Below w.heap.size w w' := by
  have PU := Box.mk (fun w => cput_any r.size 2 (by omega) (by rw [show (256 : Nat) ^ 2 = 65536 from rfl]; omega) w)
  obtain ⟨N2, hN2⟩ : ∃ N : ByteArray, N = ⟨(leList 2 r.size).toArray⟩ := ⟨_, rfl⟩
  rw [← hN2] at PU
  obtain ⟨K, hK, HK⟩ : ∃ K : Nat, min (r.size : Int) 60 = (K : Int) ∧ Box (K = min r.size 60) := ⟨min r.size 60, by omega, ⟨rfl⟩⟩
  have hKr : (K : Int) ≤ (r.size : Int) := by have := HK.out; omega
  have hKr' : K ≤ r.size := by omega
  have HN2 := Box.mk hN2
  have hn2 : N2.size = 2 := by rw [hN2]; show (leList 2 r.size).toArray.size = 2; simp [leList_length]
  have hK400 : K ≤ 60 := by have := HK.out; omega
  have hK4 : 4 + K ≤ 9223372036854775807 := by omega
  clear hN2
  go_enter Tryz.func54, Tryz.ntmps54
  go_wp2_with fail
  refine (PU.out _).mono ?_
  rintro e w1 ⟨rfl, hb⟩
  have HB := Box.mk hb; clear hb
  go_upto_region 2 with (fail)
  go_cut [5] (fun k wx => k = .int .i64 (K : Nat) ∧ wx = w1)
  case first =>
    go_wp2_with fail
    all_goals
      go_meet
      exact ⟨int_congr (by omega), rfl⟩
  case rest =>
    obtain ⟨rfl, rfl⟩ := hcut
    clear hK
    go_upto_region 3 with (fail)
    refine wp_region_mix 10 [.cha, .cha, .flo, .flo, .flo, .flo, .flo, .flo, .flo, .cha] (by kernel_rfl) (by kernel_rfl) rfl ?_
    simp only [List.take, List.zip, List.zipWith]
    try go_frame
    refine gm_oneL (e := 5) (.const (.int .u8 1)) rfl (.int .u8 1) rfl (fun _ => by kernel_rfl) Stb.tt (fun b1 hb1 => ?_)
    try go_frame
    refine gm_convL (.tmp 16) rfl (.string ⟨[1].toArray⟩) (Stb.new Stb.tt _ _) (fun wc hwc hFc => run_bytes_at Tryz.prog wc b1 0 1 [1] 22 9 5 1 rfl Tryz.underlying22 Tryz.underlying5 Tryz.underlying9 (fun j u hj => ?_)) ?_
    case refine_1 =>
      match j, hj with
      | 0, hj =>
        simp at hj; subst hj
        rw [Nat.add_zero, cell_of_row _ _ _ _ _ _ hFc.2]; rfl
      | j + 1, hj => simp at hj
    try go_frame
    refine gm_move (.tmp 3) (.inl rfl) (.string N2) rfl ?_
    try go_frame
    refine gm_flo (.string (⟨[1].toArray⟩ ++ N2)) (fun w1 hw1 => ?_) ?_
    case refine_1 =>
      go_simp
    try go_frame
    refine gm_flo (.string (⟨[1].toArray⟩ ++ N2 ++ ⟨[255].toArray⟩)) (fun w1 hw1 => ?_) ?_
    case refine_1 =>
      go_simp
    try go_frame
    refine gm_move (.tmp 0) (.inl rfl) (.string r) rfl ?_
    try go_frame
    refine gm_move (.tmp 5) (.inl rfl) (.int .i64 (K : Nat)) rfl ?_
    try go_frame
    refine gm_flo (.string (r.extract 0 K)) (fun w1 hw1 => ?_) ?_
    case refine_1 =>
      go_simp
    try go_frame
    refine gm_flo (.string (⟨[1].toArray⟩ ++ N2 ++ ⟨[255].toArray⟩ ++ r.extract 0 K)) (fun w1 hw1 => ?_) ?_
    case refine_1 =>
      go_simp
    try go_frame
    refine gm_oneL (e := 9) (.tmp 24) rfl (.string (⟨[1].toArray⟩ ++ N2 ++ ⟨[255].toArray⟩ ++ r.extract 0 K)) rfl (fun _ => by kernel_rfl) (Stb.tt.new _ _) (fun b2 hb2 => ?_)
    try go_frame
    refine gm_nil ?_
    intro w9 hw9 hF9
    simp only [List.drop]
    try go_frame
    obtain ⟨F8, R2⟩ := hF9
    have R2 := Box.mk R2
    have B9 := Box.mk (HB.out.trans (((Below.refl _ _).drew.trans hw9).mono HB.out.size))
    have LB := Box.mk (show w.heap.size ≤ b2 from Nat.le_trans HB.out.size hb2)
    obtain ⟨X0, hX0⟩ : ∃ X : ByteArray, X = ⟨[1].toArray⟩ ++ N2 ++ ⟨[255].toArray⟩ ++ r.extract 0 K := ⟨_, rfl⟩
    rw [← hX0] at R2 ⊢
    have HX0 : Box (X0 = pgS r 0) := ⟨by
      rw [hX0, HN2.out]
      apply ba_ext
      have e : r.size = r.data.toList.length := by simp
      simp only [ByteArray.data_append, Array.toList_append]
      have h60 : (r.extract 0 K).data.toList = r.data.toList.take 60 := by
        rw [ba_cut, List.drop_zero, Nat.sub_zero, HK.out, e]
        rw [List.take_eq_take_iff]; omega
      rw [h60]
      show _ = pageL r.data.toList 0
      unfold pageL; rw [if_pos rfl, ← e]; simp⟩
    obtain ⟨rest, hrest⟩ : ∃ x : ByteArray, x = r.extract K r.size := ⟨_, rfl⟩
    have HREST : Box (rest = r.extract 60 r.size) := ⟨by
      have := cut_next r 0 60
      have e0 : r.extract 0 r.size = r := by
        apply ba_ext; rw [ba_cut, List.drop_zero, List.take_of_length_le (by simp)]
      rw [e0, Nat.sub_zero, Nat.zero_add] at this
      rw [hrest, HK.out]; exact this⟩
    clear hb1 hb2 hw9 F8 hX0 HB PU
    go_upto_region 4 with (fail)
    go_wp2_with fail
    rw [← hrest]
    have HP := Box.mk (pgs_pos hr)
    clear hrest hn2 hKr hKr'
    go_loopw [0, 5, 6] (fun x k v wr => ∃ j : Nat, 1 ≤ j ∧ j ≤ pgs r.size ∧ (∃ kk : Nat, k = .int .i64 (kk : Nat)) ∧ x = .string (r.extract (lOff j) r.size) ∧ wr.ownsRow w.heap.size 9 1 v j ((List.range j).map fun i => .string (pgS r i)) ∧ Below w.heap.size w wr) (fun x _ _ _ => (match x with | .string s => s.size | _ => 0))
    case atStart => exact ⟨1, by omega, HP.out.1, ⟨_, rfl⟩, by rw [HREST.out]; rfl, by rw [HX0.out] at R2; exact own_one R2.out LB.out, B9.out⟩
    case round =>
      clear R2 B9 LB HX0 HREST
      obtain ⟨j, h1, hj, ⟨kk, rfl⟩, rfl, hown, hb⟩ := hrel
      obtain ⟨x, hx⟩ : ∃ x : ByteArray, x = r.extract (lOff j) r.size := ⟨_, rfl⟩
      rw [← hx]
      have HX := Box.mk hx; have HOWN := Box.mk hown; have HBW := Box.mk hb
      have hxs : x.size = r.size - lOff j := by rw [hx, ByteArray.size_extract]; omega
      have HXS := Box.mk hxs
      clear hx hown hb
      clear hxs
      by_cases hne : x.size = 0
      · have he : x.toList.isEmpty = true := str_no x hne
        have HE : Box (j = pgs r.size) := ⟨by
          have := HXS.out
          rw [hne] at this
          unfold lOff at this
          unfold pgs at hj ⊢
          split at hj
          · omega
          · rename_i h4
            rw [if_neg h4]
            split at hj <;> (rename_i h6; first | rw [if_pos h6] | rw [if_neg h6]) <;> omega⟩
        clear hne
        go_wp2_with fail
        go_ret
        exact ⟨_, rfl, by rw [← HE.out]; exact HOWN.out, HBW.out⟩
      · have he : x.toList.isEmpty = false := str_ne x hne
        have HLT : Box (lOff j < r.size) := ⟨by have := HXS.out; omega⟩
        obtain ⟨M, hM, HM⟩ : ∃ M : Nat, min (x.size : Int) 63 = (M : Int) ∧ Box (M = min (r.size - lOff j) 63) := ⟨min (r.size - lOff j) 63, by have := HXS.out; omega, ⟨rfl⟩⟩
        have hMx : (M : Int) ≤ (x.size : Int) := by omega
        have hM63 : 1 + min M x.size ≤ 9223372036854775807 := by omega
        have hM62 : 1 + M ≤ 9223372036854775807 := by omega
        clear hne
        go_upto_region 7 with (fail)
        go_cut [5] (fun k wx => k = .int .i64 (M : Nat) ∧ wx = wr)
        case first =>
          go_wp2_with fail
          all_goals
            go_meet
            exact ⟨int_congr (by omega), rfl⟩
        case rest =>
          obtain ⟨rfl, rfl⟩ := hcut
          clear hM
          go_upto_region 8 with (fail)
          refine wp_region_mix 8 [.flo, .cha, .cha, .flo, .flo, .flo, .flo, .cha] (by kernel_rfl) (by kernel_rfl) rfl ?_
          simp only [List.take, List.zip, List.zipWith]
          try go_frame
          refine gm_move (.tmp 6) (.inl rfl) (u6) rfl ?_
          try go_frame
          refine gm_oneL (e := 5) (.const (.int .u8 2)) rfl (.int .u8 2) rfl (fun _ => by kernel_rfl) Stb.tt (fun b1 hb1 => ?_)
          try go_frame
          refine gm_convL (.tmp 38) rfl (.string ⟨[2].toArray⟩) (Stb.new Stb.tt _ _) (fun wc hwc hFc => run_bytes_at Tryz.prog wc b1 0 1 [2] 22 9 5 1 rfl Tryz.underlying22 Tryz.underlying5 Tryz.underlying9 (fun j u hj => ?_)) ?_
          case refine_1 =>
            match j, hj with
            | 0, hj =>
              simp at hj; subst hj
              rw [Nat.add_zero, cell_of_row _ _ _ _ _ _ hFc.2]; rfl
            | j + 1, hj => simp at hj
          try go_frame
          refine gm_move (.tmp 0) (.inl rfl) (.string x) rfl ?_
          try go_frame
          refine gm_move (.tmp 5) (.inl rfl) (.int .i64 (M : Nat)) rfl ?_
          try go_frame
          refine gm_flo (.string (x.extract 0 M)) (fun w1 hw1 => ?_) ?_
          case refine_1 =>
            go_simp
          try go_frame
          refine gm_flo (.string (⟨[2].toArray⟩ ++ x.extract 0 M)) (fun w1 hw1 => ?_) ?_
          case refine_1 =>
            go_simp
          try go_frame
          refine gm_oneL (e := 9) (.tmp 43) rfl (.string (⟨[2].toArray⟩ ++ x.extract 0 M)) rfl (fun _ => by kernel_rfl) (Stb.tt.new _ _) (fun b2 hb2 => ?_)
          try go_frame
          refine gm_nil ?_
          intro w9 hw9 hF9
          simp only [List.drop]
          try go_frame
          obtain ⟨F8, R2⟩ := hF9
          obtain ⟨X1, hX1⟩ : ∃ X : ByteArray, X = ⟨[2].toArray⟩ ++ x.extract 0 M := ⟨_, rfl⟩
          rw [← hX1] at R2 ⊢
          have B9 := Box.mk (HBW.out.trans (((Below.refl _ _).drew.trans hw9).mono HBW.out.size))
          have O9 := Box.mk (own_keep HOWN.out (w' := w9) fun k _ hl => Below.block hw9 k hl)
          have HX1 : Box (X1 = pgS r j) := ⟨by
            rw [hX1, HM.out, HX.out]
            apply ba_ext
            rw [ByteArray.data_append, Array.toList_append, cut_first]
            show _ = pageL r.data.toList j
            unfold pageL lOff; rw [if_neg (by omega)]; rfl⟩
          have RC : Box (∀ k u, [Value.string X1][k]? = some u → w9.cell? ((⟨b2, 0, none⟩ : Addr).add k) = some u) := ⟨fun k u hk => by
            match k, hk with
            | 0, hk => simp at hk; subst hk; show w9.cell? ⟨b2, 0 + 0, none⟩ = _; rw [cell_of_row _ _ _ _ _ _ R2]; rfl
            | k + 1, hk => simp at hk⟩
          have hj400 : j ≤ 8 := by have := (pgs_pos hr).2; omega
          have S9 := Box.mk B9.out.size
          obtain ⟨i0, hi0, hz0, hsz0, hby0⟩ := info_parts info_str
          clear hb1 hb2 hw9 F8 R2 hX1 HOWN HBW hM63 hM62
          go_wp2_with (at_builtin; refine wpList_append_own _ rfl (.tmp 37) (.tmp 44) 51 rfl w.heap.size 9 i0 (.string ⟨#[]⟩) 1 16 Tryz.underlying51 hi0 hz0 hsz0 hby0 rfl (by decide) u6 j _ rfl O9.out ⟨b2, 0, none⟩ 1 1 [.string X1] rfl rfl RC.out (fun u hu => by simp at hu; subst hu; rfl) (by unfold maxLen; omega) (by omega) S9.out ?_; intro v' w' hown' hgrow hnil)
          have O10 := Box.mk hown'; have B10 := Box.mk (B9.out.grown hgrow S9.out (fun k e => (World.ownsRow.lt O9.out k e).1))
          clear hown' hgrow hnil
          have HJ1 : Box (j + 1 ≤ pgs r.size) := ⟨by
            have := HLT.out
            unfold lOff at this
            unfold pgs
            rw [if_neg (by omega)]
            split <;> omega⟩
          have HO1 : Box (lOff (j + 1) = lOff j + 63) := ⟨by unfold lOff; omega⟩
          have HXN : Box (x.extract M x.size = r.extract (lOff (j + 1)) r.size) := ⟨by
            rw [HM.out, HXS.out, HX.out, cut_next, HO1.out]⟩
          refine ⟨⟨j + 1, by omega, HJ1.out, ⟨M, rfl⟩, congrArg Value.string HXN.out, ?_, B10.out⟩, ?_⟩
          · have e := O10.out
            rw [HX1.out] at e
            rw [List.range_succ, List.map_append]
            exact e
          · dsimp only
            rw [HXN.out, ByteArray.size_extract, HO1.out]
            have := HXS.out; have := HLT.out; omega
end Go.Proofs.YtjednaendedpdaaGreat

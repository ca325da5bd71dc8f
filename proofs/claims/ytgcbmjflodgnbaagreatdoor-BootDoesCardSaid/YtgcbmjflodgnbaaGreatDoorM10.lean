/- Logs: newest, Free, Room, Format. Logs: Format. Logs: laid. Boot: parse. Boot: Next, Get, Seq, Dead, Clone. Boot: Format. -/
import Derived.Test.YtgcbmjflodgnbaaGreatDoorM09
import Derived.Test.YtgcbmjflodgnbaaGreatDoorM05
import Derived.Deep.RegionHeld
import Derived.Test.YtgcbmjflodgnbaaGreatDoorM06
import Derived.Test.YtgcbmjflodgnbaaGreatDoorM07
import Derived.Test.YtgcbmjflodgnbaaGreatDoorM08
namespace Go.Proofs.YtgcbmjflodgnbaaGreatDoor
set_option maxRecDepth 100000
set_option linter.unusedVariables false
open Go Go.RowKit

section
variable {P : Program} {W : World} {S : List Nat} {T : (World → Prop) → List Nat → Act → Prop} {L : List (Oper × Kd)} {F : World → Prop} {N : List Nat} {a : Act} {o : Oper}
/-- A field of a value. -/
theorem gm_sel {ty : TypeId} (x : Operand) (i : Nat) (ho : o.op = .field ty x i) (vx : Value) (hx : a.eval x = vx) (v : Value) (hr : ∀ w, (Instr.field ty vx i).run P w = .ok v w)
    (h : wpG P W S T L F N (a.put o.dst v)) : wpG P W S T ((o, .flo) :: L) F N a :=
  gm_flo v (fun w hw => by unfold execOp; simp only [ho, hx, Sem.run_bind, hr w, Result.andThen_ok, Sem.run_pure]) h
end
theorem cellA {w : World} {a : Addr} {v : Value} (o : Obj) (h : w.cell? a = some v) : (w.alloc o).cell? a = some v := (World.cell?_alloc_some w a o (by rw [h]; rfl)).trans h
theorem LS.newest_at {l : LS} (hne : l.segs ≠ []) : ∃ k, l.segs.length = k + 1 ∧ l.segs[k]? = some l.newest := by
  have : 0 < l.segs.length := List.length_pos_iff.2 hne
  refine ⟨l.segs.length - 1, by omega, ?_⟩
  unfold LS.newest
  rw [List.getD_eq_getElem?_getD, List.getElem?_eq_getElem (by omega)]; rfl
def segV (s : Nat × Nat) : Value := .agg #[.int .i64 (s.1 : Int), .int .i64 (s.2 : Int)]
/-- A log's segments lie in the part. -/
structure LS.Ok (l : LS) (B : Nat) : Prop where
  ne : l.segs ≠ []
  few : l.segs.length ≤ B
  blk : ∀ x ∈ l.segs, x.1 < B
theorem LS.newest_mem {l : LS} (hne : l.segs ≠ []) : l.newest ∈ l.segs := by
  obtain ⟨k, _, h⟩ := LS.newest_at hne
  exact List.mem_of_getElem? h
/-- Which cleanness a page of the newest segment has. -/
theorem clean_page {s : FS} {F B b p : Nat} (hd : s.dead = false) (hb : b < B) (hp : p < 8) : pcleanV s F B ((512 * b + 64 * p : Nat) : Int) 64 = (clnL (s.blk F b) (7 - p), 0) := by
  have hin : inB (B : Int) ((512 * b + 64 * p : Nat) : Int) 64 = true := by rw [inB_iff]; omega
  unfold pcleanV preadV
  rw [if_pos hin, hd]
  simp only [Bool.false_eq_true, if_false, if_true]
  have e : (512 * (F : Int) + ((512 * b + 64 * p : Nat) : Int)).toNat = 512 * (F + b) + 64 * p := by omega
  rw [e]
  have hc : ((s.blk F b).drop (64 * p)).take 64 = (s.b.drop (512 * (F + b) + 64 * p)).take 64 := by
    unfold FS.blk
    rw [List.drop_take, List.drop_drop, List.take_take, show min 64 (512 - 64 * p) = 64 by omega]
  show ((((ffs _ : Nat) : Int) == ((ByteArray.size _ : Nat) : Int)), (0 : Int)) = _
  congr 1
  unfold clnL
  rw [show 7 - (7 - p) = p by omega, hc]
  rw [show (64 : Int).toNat = 64 from rfl]
  generalize (s.b.drop (512 * (F + b) + 64 * p)).take 64 = x
  rw [show (ByteArray.size ⟨x.toArray⟩ : Nat) = x.length from rfl, Bool.eq_iff_iff, beq_iff_eq, List.all_eq_true]
  constructor
  · intro h u hu
    obtain ⟨k, hk, hk2⟩ := List.mem_iff_getElem.1 hu
    have := ffs_lt x h k hk
    rw [List.getElem?_eq_getElem hk, hk2] at this
    rw [beq_iff_eq]; exact Option.some.inj this
  · intro h
    rw [ffs_all x fun k hk => by rw [List.getElem?_eq_getElem hk]; exact congrArg some (beq_iff_eq.1 (h _ (List.getElem_mem hk)))]
end Go.Proofs.YtgcbmjflodgnbaaGreatDoor
namespace Go.Proofs.YtgcbmjflodgnbaaGreatDoor
set_option maxRecDepth 100000
set_option linter.unusedVariables false
open Go Go.RowKit

/-- One step more, in blocks that are named or new. -/
theorem Upd.ext {S T : List Nat} {a b c : World} (h : Upd S a b) (k : Upd T b c) (hT : ∀ i, i ∈ T → i ∈ S ∨ a.heap.size ≤ i) : Upd S a c :=
  ⟨k.os.trans h.os, k.tape.trans h.tape, k.output.trans h.output, Nat.le_trans h.size k.size, fun i hi hn => (k.block i (Nat.lt_of_lt_of_le hi h.size) (fun hm => by
    rcases hT i hm with h' | h'
    · exact hn h'
    · omega)).trans (h.block i hi hn)⟩
theorem lcleans_stay (s : FS) (F B : Int) (l : LS) (k : Nat) (h : (FS.lcleans s F B l k).2.2 ≠ 0) : ∀ m, FS.lcleans s F B l (k + m) = FS.lcleans s F B l k
  | 0 => rfl
  | m + 1 => by
    rw [show k + (m + 1) = (k + m) + 1 by omega, FS.lcleans, lcleans_stay s F B l k h m, if_pos h]
end Go.Proofs.YtgcbmjflodgnbaaGreatDoor
namespace Go.Proofs.YtgcbmjflodgnbaaGreatDoor
set_option maxRecDepth 100000
set_option linter.unusedVariables false
open Go Go.RowKit

section
variable {P : Program} {W : World} {S : List Nat} {T : (World → Prop) → List Nat → Act → Prop} {L : List (Oper × Kd)} {F : World → Prop} {N : List Nat} {a : Act} {o : Oper}
theorem gm_oneL {ty e : TypeId} (x : Operand) (ho : o.op = .buildSlice ty 1 #[(0, x)]) (v : Value) (hx : a.eval x = v) (hr : ∀ w, (Instr.buildSlice ty 1 #[(0, v)]).run P w = .ok (.slice (some ⟨w.heap.size, 0, none⟩) 1 1) (w.alloc (.cells #[v] e))) (hF : Stb F)
    (h : ∀ b, W.heap.size ≤ b → wpG P W S T L (fun w => F w ∧ w.heap[b]? = some (.cells #[v] e (0, 0))) ([b] ++ N) (a.put o.dst (.slice (some ⟨b, 0, none⟩) 1 1))) : wpG P W S T ((o, .cha) :: L) F N a :=
  gm_val fun w hw hFw => ⟨_, _, by
    subst hx
    unfold execOp
    simp only [ho, Sem.run_bind, List.map_toArray, List.map_cons, List.map_nil, hr, Result.andThen_ok, Sem.run_pure], Gr.alloc _ _, _, [w.heap.size], hF.new _ _, ⟨hF _ _ (Gr.alloc _ _) hFw, heap_alloc_new _ _⟩, fun b hb => by simp at hb; subst hb; simp, h _ hw.size⟩
theorem gm_convL {src dst : TypeId} (x : Operand) (ho : o.op = .convert src dst x) (v : Value) (hF : Stb F) (hr : ∀ w, GrS S W w → F w → (convert src dst (a.eval x)).run P w = .ok v w)
    (h : wpG P W S T L F N (a.put o.dst v)) : wpG P W S T ((o, .cha) :: L) F N a :=
  gm_val fun w hw hFw => ⟨v, w, by unfold execOp; simp only [ho, Sem.run_bind, hr w hw hFw, Result.andThen_ok, Sem.run_pure], Gr.refl _, F, [], hF, hFw, (fun _ hb => by cases hb), h⟩
end
def pgS (r : ByteArray) (i : Nat) : ByteArray := ⟨(pageL r.data.toList i).toArray⟩
def lOff (j : Nat) : Nat := 60 + 63 * (j - 1)
theorem ba_ext {a b : ByteArray} (h : a.data.toList = b.data.toList) : a = b := ByteArray.ext (Array.toList_inj.1 h)
theorem ba_cut (r : ByteArray) (i j : Nat) : (r.extract i j).data.toList = (r.data.toList.drop i).take (j - i) := by
  rw [ByteArray.data_extract, Array.toList_extract, List.extract_eq_take_drop]
theorem cut_next (r : ByteArray) (o n : Nat) : (r.extract o r.size).extract (min (r.size - o) n) (r.size - o) = r.extract (o + n) r.size := by
  apply ba_ext
  have hs : r.data.toList.length = r.size := by simp
  rw [ba_cut, ba_cut, ba_cut]
  apply List.ext_getElem?; intro k
  simp only [List.getElem?_take, List.getElem?_drop]
  by_cases h1 : k < r.size - (o + n)
  · rw [if_pos (by omega), if_pos (by omega), if_pos h1]; congr 1; omega
  · rw [if_neg h1]
    split
    · split
      · rw [List.getElem?_eq_none]; omega
      · rfl
    · rfl
theorem cut_first (r : ByteArray) (o n : Nat) : ((r.extract o r.size).extract 0 (min (r.size - o) n)).data.toList = (r.data.toList.drop o).take n := by
  have hs : r.data.toList.length = r.size := by simp
  rw [ba_cut, ba_cut, List.drop_zero, List.take_take, Nat.sub_zero]
  apply List.ext_getElem?; intro k
  simp only [List.getElem?_take, List.getElem?_drop]
  by_cases h1 : k < n
  · rw [if_pos h1]
    split
    · rfl
    · rw [List.getElem?_eq_none]; omega
  · rw [if_neg h1, if_neg (by omega)]
theorem own_one {w : World} {base b : Nat} {e : TypeId} {u : Value} (h : w.heap[b]? = some (.cells #[u] e (0, 0))) (hb : base ≤ b) : w.ownsRow base e 1 (.slice (some ⟨b, 0, none⟩) 1 1) 1 [u] :=
  ⟨rfl, .inr ⟨b, 1, #[u], rfl, hb, h, Nat.le_refl _, by unfold maxLen; omega, rfl, rfl⟩⟩
theorem info_str : (Tryz.prog.info? 9).map (fun i => (i.zero, i.size, i.bytes)) = some (some (.string ⟨#[]⟩), 1, 16) := by kernel_rfl
end Go.Proofs.YtgcbmjflodgnbaaGreatDoor
namespace Go.Proofs.YtgcbmjflodgnbaaGreatDoor
set_option maxRecDepth 100000
set_option linter.unusedVariables false
open Go Go.RowKit

theorem results_cell2 {P : Program} {fn : Func} {p t u : Tmp} {ty : TypeId} (h : fn.results = #[.cell p ty, .tmp t, .tmp u]) (tmps : Array Value) (w : World) (g : Nat) (t' : TypeId) (cs : Array Value) (d : TypeDesc)
    (hp : tmps.getD p undef = .pointer (some ⟨g, 0, none⟩)) (hg : w.heap[g]? = some (.cells cs t' (0, 0)))
    (hu : P.underlying ty = some d) (hd : (match d with | .struct _ | .array _ _ => true | _ => false) = true) (hi : (P.info? ty).map (·.size) = some cs.size) :
    (results fn tmps).run P w = .ok (.tuple #[.agg cs, tmps.getD t undef, tmps.getD u undef]) w := by
  have hp' : tmps[p]?.getD undef = .pointer (some ⟨g, 0, none⟩) := by simpa using hp
  simp [results, h, hp', asAddr, run_loadVar_row w g t' ty cs (0, 0) d hg hu hd hi]
/-- What parse tells. -/
def prsB (a : Addr) (p : List UInt8) : Ending := if cntB p = true then .returned (.tuple #[brV (readB p), .int .i64 (numB p : Int), .nilIface]) else .returned (.tuple #[brV BR.zero, .int .i64 0, .iface 152 (.pointer (some a))])
theorem pageB_0 (r : BR) (n : Nat) : (pageB r n)[0]? = some 66 := by unfold pageB bodyB; rfl
theorem cnt_no0 {p : List UInt8} (h : p[0]? ≠ some 66) : cntB p = false := by
  rw [← Bool.not_eq_true, cnt_iff]; rintro ⟨_, _, e⟩; exact h (by rw [← e]; exact pageB_0 _ _)
/-- A record is stored over another one. -/
theorem set5 {w : World} {b : Nat} {r0 : BR} (h : w.heap[b]? = some (.cells (brC r0) 24 (0, 0))) (r : BR) :
    (((((w.setCell ⟨b, 0, none⟩ (.int .i64 r.slot)).setCell ⟨b, 1, none⟩ (.bool r.up)).setCell ⟨b, 2, none⟩ (.int .i64 r.count)).setCell ⟨b, 3, none⟩ (.int .i64 r.s0)).setCell ⟨b, 4, none⟩ (.int .i64 r.s1)).heap[b]? = some (.cells (brC r) 24 (0, 0)) := by
  have e1 : (w.setCell ⟨b, 0, none⟩ (.int .i64 r.slot)).heap[b]? = some (.cells #[.int .i64 r.slot, .bool r0.up, .int .i64 r0.count, .int .i64 r0.s0, .int .i64 r0.s1] 24 (0, 0)) := by rw [heap_setCell_same _ _ _ _ _ _ h]; rfl
  have e2 : ((w.setCell ⟨b, 0, none⟩ (.int .i64 r.slot)).setCell ⟨b, 1, none⟩ (.bool r.up)).heap[b]? = some (.cells #[.int .i64 r.slot, .bool r.up, .int .i64 r0.count, .int .i64 r0.s0, .int .i64 r0.s1] 24 (0, 0)) := by rw [heap_setCell_same _ _ _ _ _ _ e1]; rfl
  have e3 : (((w.setCell ⟨b, 0, none⟩ (.int .i64 r.slot)).setCell ⟨b, 1, none⟩ (.bool r.up)).setCell ⟨b, 2, none⟩ (.int .i64 r.count)).heap[b]? = some (.cells #[.int .i64 r.slot, .bool r.up, .int .i64 r.count, .int .i64 r0.s0, .int .i64 r0.s1] 24 (0, 0)) := by rw [heap_setCell_same _ _ _ _ _ _ e2]; rfl
  have e4 : ((((w.setCell ⟨b, 0, none⟩ (.int .i64 r.slot)).setCell ⟨b, 1, none⟩ (.bool r.up)).setCell ⟨b, 2, none⟩ (.int .i64 r.count)).setCell ⟨b, 3, none⟩ (.int .i64 r.s0)).heap[b]? = some (.cells #[.int .i64 r.slot, .bool r.up, .int .i64 r.count, .int .i64 r.s0, .int .i64 r0.s1] 24 (0, 0)) := by rw [heap_setCell_same _ _ _ _ _ _ e3]; rfl
  rw [heap_setCell_same _ _ _ _ _ _ e4]; rfl
theorem below5 {B : Nat} {w w' : World} {b : Nat} (h : Below B w w') (hb : B ≤ b) (r : BR) :
    Below B w (((((w'.setCell ⟨b, 0, none⟩ (.int .i64 r.slot)).setCell ⟨b, 1, none⟩ (.bool r.up)).setCell ⟨b, 2, none⟩ (.int .i64 r.count)).setCell ⟨b, 3, none⟩ (.int .i64 r.s0)).setCell ⟨b, 4, none⟩ (.int .i64 r.s1)) :=
  ((((h.setCell hb _).setCell hb _).setCell hb _).setCell hb _).setCell hb _
theorem boot_cells {w : World} {b : Nat} {r : BR} (h : w.heap[b]? = some (.cells (brC r) 24 (0, 0))) : (w.cell? ⟨b, 0, none⟩ = some (.int .i64 r.slot) ∧ w.cell? ⟨b, 1, none⟩ = some (.bool r.up) ∧ w.cell? ⟨b, 2, none⟩ = some (.int .i64 r.count) ∧ w.cell? ⟨b, 3, none⟩ = some (.int .i64 r.s0) ∧ w.cell? ⟨b, 4, none⟩ = some (.int .i64 r.s1)) ∧ ∀ i, w.frozen? ⟨b, i, none⟩ = false :=
  ⟨by refine ⟨?_, ?_, ?_, ?_, ?_⟩ <;> (rw [cell_of_row _ _ _ _ _ _ h]; rfl), fun i => frozen_of_row _ _ _ _ _ h⟩
theorem rep47 : (⟨(Lib.repeatL [255] 47).toArray⟩ : ByteArray) = ⟨(List.replicate 47 (255 : UInt8)).toArray⟩ := by decide
theorem ErrAt.lt {w : World} {a : Addr} (h : ErrAt w a) : 0 < w.heap.size := World.block_lt_of_cell? w _ h
theorem ErrAt.below {B : Nat} {w w' : World} {a : Addr} (h : ErrAt w a) (hb : Below B w w') (hB : 0 < B) : ErrAt w' a := (hb.cell (p := ⟨0, 0, none⟩) hB).trans h
set_option maxHeartbeats 4000000 in
theorem bparse_any (a : Addr) (s : ByteArray) (hsz : s.size = 64) (w : World) (hE : ErrAt w a) :
    Calls Tryz.prog 48 #[.string s] w fun e w' => e = prsB a s.data.toList ∧ Below w.heap.size w w' := by
  obtain ⟨V, hV⟩ : ∃ V, V = prsB a s.data.toList := ⟨_, rfl⟩
  rw [← hV]
  have hl : s.data.toList.length = 64 := by rw [← hsz]; simp
  have hat : ∀ i (h : i < 64), s.data.toList[i]? = some (s[i]'(by omega)) := fun i h => by
    rw [List.getElem?_eq_getElem (by omega)]; rfl
  have EL := Box.mk hE.lt
  unfold ErrAt at hE
  by_cases h0 : s[0] = 66
  · by_cases h63 : s[63] = 0
    · have h0I : (((s[0]'(by omega)).toNat : Int) != 66) = false := by rw [h0]; rfl
      have h63I : (((s[63]'(by omega)).toNat : Int) != 0) = false := by rw [h63]; rfl
      have G1 := Box.mk (fun w => cget_any (s.extract 1 7) (by rw [ByteArray.size_extract]; omega) w)
      have G2 := Box.mk (fun w => cget_any (s.extract 10 13) (by rw [ByteArray.size_extract]; omega) w)
      have G3 := Box.mk (fun w => cget_any (s.extract 13 16) (by rw [ByteArray.size_extract]; omega) w)
      obtain ⟨N, hN⟩ : ∃ N, N = num (s.extract 1 7) := ⟨_, rfl⟩
      obtain ⟨X, hX⟩ : ∃ X, X = num (s.extract 10 13) := ⟨_, rfl⟩
      obtain ⟨Y, hY⟩ : ∃ Y, Y = num (s.extract 13 16) := ⟨_, rfl⟩
      rw [← hN] at G1; rw [← hX] at G2; rw [← hY] at G3
      obtain ⟨r, hr⟩ : ∃ r, r = readB s.data.toList := ⟨_, rfl⟩
      have E7 : Box (wrap64 (((s[7]'(by omega)).toNat : Nat) : Int) = r.slot) := ⟨by
        rw [hr]; unfold readB; dsimp only
        rw [List.getD_eq_getElem?_getD, hat 7 (by omega), Option.getD_some, IntWalk.wrap64_in] <;> (have := (s[7]'(by omega)).toNat_lt; omega)⟩
      have E9 : Box (wrap64 (((s[9]'(by omega)).toNat : Nat) : Int) = r.count) := ⟨by
        rw [hr]; unfold readB; dsimp only
        rw [List.getD_eq_getElem?_getD, hat 9 (by omega), Option.getD_some, IntWalk.wrap64_in] <;> (have := (s[9]'(by omega)).toNat_lt; omega)⟩
      have E8 : Box (((((s[8]'(by omega)).toNat : Nat) : Int) == 1) = r.up) := ⟨by
        rw [hr]; unfold readB; dsimp only
        rw [List.getD_eq_getElem?_getD, hat 8 (by omega), Option.getD_some, Bool.eq_iff_iff, beq_iff_eq, beq_iff_eq, ← UInt8.toNat_inj]
        show _ ↔ _ = 1
        omega⟩
      have hcut : ∀ i j, i ≤ j → j ≤ 64 → num (s.extract i j) = leNat ((s.data.toList.drop i).take (j - i)) := fun i j _ _ => by
        unfold num; rw [ba_cut]
      have EX : Box ((X : Int) = r.s0) := ⟨by rw [hr, hX, hcut 10 13 (by omega) (by omega)]; rfl⟩
      have EY : Box ((Y : Int) = r.s1) := ⟨by rw [hr, hY, hcut 13 16 (by omega) (by omega)]; rfl⟩
      have HNUM : Box (numB s.data.toList = N) := ⟨by rw [hN, hcut 1 7 (by omega) (by omega)]; rfl⟩
      have HNUM48 : Box (N < 281474976710656) := ⟨by
        rw [← HNUM.out]
        have h1 := leNat_lt ((s.data.toList.drop 1).take 6)
        rw [show ((s.data.toList.drop 1).take 6).length = 6 by rw [List.length_take, List.length_drop]; omega] at h1
        exact h1⟩
      have HREC : Box (readB s.data.toList = r) := ⟨hr.symm⟩
      clear hN hX hY hr hcut
      go_enter Tryz.func48, Tryz.ntmps48
      go_wp2_with fail
      refine (G1.out _).mono ?_
      rintro e w1 ⟨rfl, rfl⟩
      go_wp2_with fail
      refine (G2.out _).mono ?_
      rintro e w1 ⟨rfl, rfl⟩
      go_wp2_with fail
      refine (G3.out _).mono ?_
      rintro e w1 ⟨rfl, rfl⟩
      go_wp2_with fail
      go_region
      rw [E7.out, E8.out, E9.out, EX.out, EY.out]
      obtain ⟨b0, hb0⟩ : ∃ b0, b0 = w.heap.size := ⟨_, rfl⟩
      have hbe : Below b0 w (((w.alloc (.cells #[.int .i64 0, .bool false, .int .i64 0, .int .i64 0, .int .i64 0] 24)).alloc (.cells #[.int .i64 r.slot, .bool r.up, .int .i64 r.count, .int .i64 r.s0, .int .i64 r.s1] 24)).drew) := by
        rw [hb0]; exact (((Below.refl _ w).alloc (Nat.le_refl _) _).alloc (by simp) _).drew
      have hr0 : (((w.alloc (.cells #[.int .i64 0, .bool false, .int .i64 0, .int .i64 0, .int .i64 0] 24)).alloc (.cells #[.int .i64 r.slot, .bool r.up, .int .i64 r.count, .int .i64 r.s0, .int .i64 r.s1] 24)).drew).heap[b0]? = some (.cells (brC BR.zero) 24 (0, 0)) := by
        show ((w.alloc _).alloc _).heap[b0]? = _
        rw [hb0, heap_alloc_old _ _ (by simp), heap_alloc_new]; rfl
      have hr1 : (((w.alloc (.cells #[.int .i64 0, .bool false, .int .i64 0, .int .i64 0, .int .i64 0] 24)).alloc (.cells #[.int .i64 r.slot, .bool r.up, .int .i64 r.count, .int .i64 r.s0, .int .i64 r.s1] 24)).drew).heap[b0 + 1]? = some (.cells (brC r) 24 (0, 0)) := by
        show ((w.alloc _).alloc _).heap[b0 + 1]? = _
        have := heap_alloc_new (w.alloc (.cells #[.int .i64 0, .bool false, .int .i64 0, .int .i64 0, .int .i64 0] 24)) (.cells #[.int .i64 r.slot, .bool r.up, .int .i64 r.count, .int .i64 r.s0, .int .i64 r.s1] 24)
        rw [hb0]; simpa [brC] using this
      rw [← hb0]
      have ELb : 0 < b0 := by rw [hb0]; exact EL.out
      have hE1 := (hbe.cell (p := ⟨0, 0, none⟩) ELb).trans hE
      generalize ((w.alloc (.cells #[.int .i64 0, .bool false, .int .i64 0, .int .i64 0, .int .i64 0] 24)).alloc (.cells #[.int .i64 r.slot, .bool r.up, .int .i64 r.count, .int .i64 r.s0, .int .i64 r.s1] 24)).drew = W1 at hbe hr0 hr1 hE1 ⊢
      have PK : Box (∀ W2, Below W1.heap.size W1 W2 → Below b0 w W2 ∧ W2.heap[b0]? = some (.cells (brC BR.zero) 24 (0, 0)) ∧ W2.cell? ⟨0, 0, none⟩ = some (.iface 152 (.pointer (some a))) ∧ W2.heap[b0 + 1]? = some (.cells (brC r) 24 (0, 0))) := ⟨fun W2 h => by
        have hs0 := (Array.getElem?_eq_some_iff.1 hr0).1
        have hs1 := (Array.getElem?_eq_some_iff.1 hr1).1
        exact ⟨hbe.trans (h.mono (Nat.le_of_lt hs0)), (h.block _ hs0).trans hr0, (h.cell (p := ⟨0, 0, none⟩) (by show 0 < _; omega)).trans hE1, (h.block _ hs1).trans hr1⟩⟩
      have HB0 := Box.mk hb0
      clear hbe hr0 hr1 hE1 hE hb0 E7 E8 E9 EX EY G1 G2 G3
      have CB := Box.mk (fun (W2 : World) (h : W2.heap[b0 + 1]? = some (.cells (brC r) 24 (0, 0))) => (show W2.cell? ⟨b0 + 1, 0, none⟩ = some (.int .i64 r.slot) ∧ W2.cell? ⟨b0 + 1, 1, none⟩ = some (.bool r.up) ∧ W2.cell? ⟨b0 + 1, 2, none⟩ = some (.int .i64 r.count) ∧ W2.cell? ⟨b0 + 1, 3, none⟩ = some (.int .i64 r.s0) ∧ W2.cell? ⟨b0 + 1, 4, none⟩ = some (.int .i64 r.s1) from by
        refine ⟨?_, ?_, ?_, ?_, ?_⟩ <;> (rw [cell_of_row _ _ _ _ _ _ h]; rfl)))
      by_cases hn1 : N = 0
      · have hn1I : (N : Int) < 1 := by omega
        have HV : Box (V = .returned (.tuple #[brV BR.zero, .int .i64 0, .iface 152 (.pointer (some a))])) := ⟨by rw [hV, prsB, if_neg]; rw [cnt_iff]; intro h; have := h.1; rw [HNUM.out] at this; omega⟩
        obtain ⟨q1, q2, q3, q4⟩ := PK.out W1 (Below.refl _ _)
        have Q := Box.mk (And.intro q1 q2)
        clear q1 q2 q4 hV PK CB hn1
        go_wp2_with fail
        obtain ⟨⟨z0, z1, z2, z3, z4⟩, zf⟩ := boot_cells Q.out.2
        have g0 := zf 0; have g1 := zf 1; have g2 := zf 2; have g3 := zf 3; have g4 := zf 4
        simp only [BR.zero] at z0 z1 z2 z3 z4
        go_region
        go_wp2_with fail
        refine bodyPost_ret (results_cell2 (p := 2) (t := 3) (u := 4) (ty := 24) rfl _ _ b0 24 (brC BR.zero) _ rfl (set5 Q.out.2 BR.zero) Tryz.underlying24 rfl (by kernel_rfl)) rfl ?_
        rw [HV.out]
        exact ⟨rfl, ((below5 Q.out.1 (Nat.le_refl _) BR.zero).drew).mono (Nat.le_of_eq HB0.out.symm)⟩
      · have hn1I : ¬ (N : Int) < 1 := by omega
        have MA := Box.mk (fun w => may_any r w)
        unfold brV brC at MA
        obtain ⟨q1, q2, q3, q4⟩ := PK.out W1 (Below.refl _ _)
        obtain ⟨k0, k1, k2, k3, k4⟩ := CB.out W1 q4
        clear q1 q2 q3 q4
        by_cases hm : r.May
        · have hmb := (BR.may_iff r).2 hm
          rw [hmb] at MA
          have BO := Box.mk (fun w => body_any r N hm HNUM48.out w)
          unfold brV brC at BO
          have RP := Box.mk (fun w => Tryz.strings_Repeat_main ⟨#[255]⟩ 47 w (by omega) (by omega) (by decide) (by decide))
          have h255 : (⟨#[255]⟩ : ByteArray).data.toList = [255] := rfl
          rw [h255, rep47] at RP
          obtain ⟨c, hc⟩ : ∃ c : ByteArray, c = ⟨(bodyB r N).toArray⟩ := ⟨_, rfl⟩
          obtain ⟨d, hd⟩ : ∃ d : ByteArray, d = ⟨(List.replicate 47 (255 : UInt8)).toArray⟩ := ⟨_, rfl⟩
          have hcd : (c ++ d ++ ⟨#[0]⟩).data.toList = pageB r N := by rw [hc, hd]; unfold pageB; simp
          have hcs : c.size = 16 := by rw [hc]; simp [ByteArray.size, bodyB_len]
          have hds : d.size = 47 := by rw [hd]; simp [ByteArray.size]
          rw [← hc] at BO
          rw [← hd] at RP
          have HCS := Box.mk (And.intro hcs hds)
          have HM := Box.mk hm
          clear hc hd hmb hm hcs hds
          go_wp2_with fail
          refine (MA.out _).mono ?_
          rintro e w2 ⟨rfl, hb2⟩
          obtain ⟨q1, q2, q3, q4⟩ := PK.out w2 hb2
          clear k0 k1 k2 k3 k4
          obtain ⟨k0, k1, k2, k3, k4⟩ := CB.out w2 q4
          have S2 := Box.mk hb2
          clear q1 q2 q3 q4 hb2
          go_wp2_with fail
          refine (BO.out _).mono ?_
          rintro e w3 ⟨rfl, hb3⟩
          have S3 := Box.mk (S2.out.trans (hb3.mono S2.out.size))
          clear hb3 k0 k1 k2 k3 k4
          go_wp2_with fail
          refine (RP.out _).mono ?_
          rintro e w4 ⟨rfl, hb4⟩
          obtain ⟨q1, q2, q3, q4⟩ := PK.out w4 (S3.out.trans (hb4.mono S3.out.size))
          have Q := Box.mk (And.intro q1 q2)
          clear hb4 S3 S2
          have hcs := HCS.out.1; have hds := HCS.out.2
          by_cases heq : pageB r N = s.data.toList
          · have heqI : ((c ++ d ++ ⟨#[0]⟩).toList == s.toList) = true := by rw [beq_iff_eq, ByteArray.toList_eq, ByteArray.toList_eq, hcd, heq]
            have HV : Box (V = .returned (.tuple #[brV r, .int .i64 (N : Int), .nilIface])) := ⟨by rw [hV, prsB, if_pos, HREC.out, HNUM.out]; rw [cnt_iff, HREC.out, HNUM.out]; exact ⟨by omega, HM.out, heq⟩⟩
            obtain ⟨k0, k1, k2, k3, k4⟩ := CB.out w4 q4
            obtain ⟨⟨z0, z1, z2, z3, z4⟩, zf⟩ := boot_cells q2
            have g0 := zf 0; have g1 := zf 1; have g2 := zf 2; have g3 := zf 3; have g4 := zf 4
            clear q1 q2 q3 q4 hV heq hcd zf PK CB
            go_wp2_with fail
            refine bodyPost_ret (results_cell2 (p := 2) (t := 3) (u := 4) (ty := 24) rfl _ _ b0 24 (brC r) _ rfl (set5 Q.out.2 r) Tryz.underlying24 rfl (by kernel_rfl)) rfl ?_
            rw [HV.out]
            exact ⟨rfl, (below5 Q.out.1 (Nat.le_refl _) r).mono (Nat.le_of_eq HB0.out.symm)⟩
          · have heqI : ((c ++ d ++ ⟨#[0]⟩).toList == s.toList) = false := by rw [beq_eq_false_iff_ne, ByteArray.toList_eq, ByteArray.toList_eq, hcd]; exact heq
            have HV : Box (V = .returned (.tuple #[brV BR.zero, .int .i64 0, .iface 152 (.pointer (some a))])) := ⟨by rw [hV, prsB, if_neg]; rw [cnt_iff, HREC.out, HNUM.out]; exact fun h => heq h.2.2⟩
            clear q1 q2 q4 hV heq hcd PK CB
            go_wp2_with fail
            obtain ⟨⟨z0, z1, z2, z3, z4⟩, zf⟩ := boot_cells Q.out.2
            have g0 := zf 0; have g1 := zf 1; have g2 := zf 2; have g3 := zf 3; have g4 := zf 4
            simp only [BR.zero] at z0 z1 z2 z3 z4
            go_region
            go_wp2_with fail
            refine bodyPost_ret (results_cell2 (p := 2) (t := 3) (u := 4) (ty := 24) rfl _ _ b0 24 (brC BR.zero) _ rfl (set5 Q.out.2 BR.zero) Tryz.underlying24 rfl (by kernel_rfl)) rfl ?_
            rw [HV.out]
            exact ⟨rfl, ((below5 Q.out.1 (Nat.le_refl _) BR.zero).drew).mono (Nat.le_of_eq HB0.out.symm)⟩
        · have hmb := (BR.may_no r).2 hm
          rw [hmb] at MA
          have HV : Box (V = .returned (.tuple #[brV BR.zero, .int .i64 0, .iface 152 (.pointer (some a))])) := ⟨by rw [hV, prsB, if_neg]; rw [cnt_iff]; intro h; exact hm (HREC.out ▸ h.2.1)⟩
          clear hV hn1 hm
          go_wp2_with fail
          refine (MA.out _).mono ?_
          rintro e w2 ⟨rfl, hb2⟩
          obtain ⟨q1, q2, q3, q4⟩ := PK.out w2 hb2
          have Q := Box.mk (And.intro q1 q2)
          clear q1 q2 q4 PK CB k0 k1 k2 k3 k4 hb2
          go_wp2_with fail
          obtain ⟨⟨z0, z1, z2, z3, z4⟩, zf⟩ := boot_cells Q.out.2
          have g0 := zf 0; have g1 := zf 1; have g2 := zf 2; have g3 := zf 3; have g4 := zf 4
          simp only [BR.zero] at z0 z1 z2 z3 z4
          go_region
          go_wp2_with fail
          refine bodyPost_ret (results_cell2 (p := 2) (t := 3) (u := 4) (ty := 24) rfl _ _ b0 24 (brC BR.zero) _ rfl (set5 Q.out.2 BR.zero) Tryz.underlying24 rfl (by kernel_rfl)) rfl ?_
          rw [HV.out]
          exact ⟨rfl, ((below5 Q.out.1 (Nat.le_refl _) BR.zero).drew).mono (Nat.le_of_eq HB0.out.symm)⟩
    · have h0I : (((s[0]'(by omega)).toNat : Int) != 66) = false := by rw [h0]; rfl
      have h63I : (((s[63]'(by omega)).toNat : Int) != 0) = true := by
        rw [bne_iff_ne]; intro h; apply h63; apply UInt8.toNat_inj.1; have h' : s[63].toNat = 0 := by omega
        exact h'
      have HV : Box (V = .returned (.tuple #[brV BR.zero, .int .i64 0, .iface 152 (.pointer (some a))])) := ⟨by rw [hV, prsB, cnt_no (by rw [hat 63 (by omega)]; exact fun h => h63 (Option.some.inj h)), if_neg (by decide)]⟩
      clear hV hat
      go_enter Tryz.func48, Tryz.ntmps48
      go_wp2_with fail
      have hE1 : (w.alloc (.cells #[.int .i64 0, .bool false, .int .i64 0, .int .i64 0, .int .i64 0] 24)).cell? ⟨0, 0, none⟩ = some (.iface 152 (.pointer (some a))) := by
        exact (((Below.refl _ w).alloc (Nat.le_refl _) _).cell EL.out).trans hE
      go_region
      go_wp2_with fail
      refine bodyPost_ret (results_cell2 (p := 2) (t := 3) (u := 4) (ty := 24) rfl _ _ w.heap.size 24 (brC BR.zero) _ rfl (heap_alloc_new _ _) Tryz.underlying24 rfl (by kernel_rfl)) rfl ?_
      rw [HV.out]
      exact ⟨rfl, ((Below.refl _ w).alloc (Nat.le_refl _) _).drew⟩
  · have h0I : (((s[0]'(by omega)).toNat : Int) == 66) = false := by
      rw [beq_eq_false_iff_ne]; intro h; apply h0; apply UInt8.toNat_inj.1; have h' : s[0].toNat = 66 := by omega
      exact h'
    have HV : Box (V = .returned (.tuple #[brV BR.zero, .int .i64 0, .iface 152 (.pointer (some a))])) := ⟨by rw [hV, prsB, cnt_no0 (by rw [hat 0 (by omega)]; exact fun h => h0 (Option.some.inj h)), if_neg (by decide)]⟩
    clear hV hat
    go_enter Tryz.func48, Tryz.ntmps48
    go_wp2_with fail
    have hE1 : (w.alloc (.cells #[.int .i64 0, .bool false, .int .i64 0, .int .i64 0, .int .i64 0] 24)).cell? ⟨0, 0, none⟩ = some (.iface 152 (.pointer (some a))) := by
      exact (((Below.refl _ w).alloc (Nat.le_refl _) _).cell EL.out).trans hE
    go_region
    go_wp2_with fail
    refine bodyPost_ret (results_cell2 (p := 2) (t := 3) (u := 4) (ty := 24) rfl _ _ w.heap.size 24 (brC BR.zero) _ rfl (heap_alloc_new _ _) Tryz.underlying24 rfl (by kernel_rfl)) rfl ?_
    rw [HV.out]
    exact ⟨rfl, ((Below.refl _ w).alloc (Nat.le_refl _) _).drew⟩
end Go.Proofs.YtgcbmjflodgnbaaGreatDoor
namespace Go.Proofs.YtgcbmjflodgnbaaGreatDoor
set_option maxRecDepth 100000
set_option linter.unusedVariables false
open Go Go.RowKit

theorem results_2c {P : Program} {fn : Func} {p t : Tmp} {ty : TypeId} (h : fn.results = #[.tmp t, .cell p ty]) (tmps : Array Value) (w : World) (g : Nat) (t' : TypeId) (cs : Array Value) (d : TypeDesc)
    (hp : tmps.getD p undef = .pointer (some ⟨g, 0, none⟩)) (hg : w.heap[g]? = some (.cells cs t' (0, 0)))
    (hu : P.underlying ty = some d) (hd : (match d with | .struct _ | .array _ _ => true | _ => false) = true) (hi : (P.info? ty).map (·.size) = some cs.size) :
    (results fn tmps).run P w = .ok (.tuple #[tmps.getD t undef, .agg cs]) w := by
  have hp' : tmps[p]?.getD undef = .pointer (some ⟨g, 0, none⟩) := by simpa using hp
  simp [results, h, hp', asAddr, run_loadVar_row w g t' ty cs (0, 0) d hg hu hd hi]
theorem bseq_any (g q : Nat) (t : BS) (w : World) (h : Bt w g q t) : Calls Tryz.prog 13 #[.pointer (some ⟨g, 0, none⟩)] w fun e w' => e = .returned (.int .i64 (t.seq : Int)) ∧ w = w' := by
  obtain ⟨_, _, _, _, _, _, c6, _, _⟩ := h.cells
  clear h
  go_enter Tryz.func13, Tryz.ntmps13
  go_wp2
  go_ret
  exact ⟨rfl, rfl⟩
theorem bdead_any (g q : Nat) (t : BS) (w : World) (h : Bt w g q t) : Calls Tryz.prog 22 #[.pointer (some ⟨g, 0, none⟩)] w fun e w' => e = .returned (.bool t.dead) ∧ w = w' := by
  obtain ⟨_, _, _, _, _, _, _, _, c8⟩ := h.cells
  clear h
  go_enter Tryz.func22, Tryz.ntmps22
  go_wp2
  go_ret
  exact ⟨rfl, rfl⟩
theorem bget_any (g q : Nat) (t : BS) (w : World) (h : Bt w g q t) : Calls Tryz.prog 14 #[.pointer (some ⟨g, 0, none⟩)] w fun e w' => e = .returned (brV t.r) ∧ Below w.heap.size w w' := by
  have h' := h.upd ((Upd.refl [] w).alloc (.cells #[.int .i64 0, .bool false, .int .i64 0, .int .i64 0, .int .i64 0] 24)) (by simp)
  obtain ⟨c0, c1, c2, c3, c4, c5, c6, c7, c8⟩ := h'.cells
  clear h h' c0 c6 c7 c8
  go_enter Tryz.func14, Tryz.ntmps14
  go_wp2
  refine bodyPost_ret (results_cell_row (p := 2) (ty := 24) rfl _ _ w.heap.size 24 (brC t.r) (0, 0) _ rfl ?_ Tryz.underlying24 rfl (by kernel_rfl)) rfl ?_
  · exact heap_alloc_new _ _
  · exact ⟨rfl, (Below.refl _ w).alloc (Nat.le_refl _) _⟩
theorem next_any (r : BR) (w : World) : Calls Tryz.prog 10 #[brV r] w fun e w' => e = .returned (.tuple #[.int .i64 r.next.1, brV r.next.2]) ∧ Below w.heap.size w w' := by
  obtain ⟨sl, up, ct, s0, s1⟩ := r
  obtain ⟨V, hV⟩ : ∃ V, V = BR.next ⟨sl, up, ct, s0, s1⟩ := ⟨_, rfl⟩
  rw [← hV]
  unfold BR.next at hV
  dsimp only at hV
  unfold brV brC
  cases up with
  | false =>
    have HV : Box (V = (sl, ⟨sl, false, ct, s0, s1⟩)) := ⟨by rw [hV, if_pos rfl]⟩
    clear hV
    go_enter Tryz.func10, Tryz.ntmps10
    go_wp2_with fail
    go_region
    go_wp2_with fail
    refine bodyPost_ret (results_2c (t := 2) (p := 3) (ty := 24) rfl _ _ (w.heap.size + 1) 24 (brC ⟨sl, false, ct, s0, s1⟩) _ rfl ?_ Tryz.underlying24 rfl (by kernel_rfl)) rfl ?_
    · show ((w.alloc _).alloc _).heap[w.heap.size + 1]? = _
      have h := fun X Y => (show ((w.alloc X).alloc Y).heap[w.heap.size + 1]? = some Y from by have := heap_alloc_new (w.alloc X) Y; rwa [World.size_alloc] at this)
      exact h _ _
    · rw [HV.out]
      exact ⟨rfl, (((Below.refl _ w).alloc (Nat.le_refl _) _).alloc (by simp) _).drew⟩
  | true =>
    rw [if_neg (by decide)] at hV
    by_cases h1 : ct < 1
    · have HV : Box (V = (sl, ⟨sl, true, wrap64 (ct + 1), s0, s1⟩)) := ⟨by rw [hV, if_pos h1]⟩
      clear hV
      go_enter Tryz.func10, Tryz.ntmps10
      go_wp2_with fail
      go_region
      go_wp2_with fail
      refine bodyPost_ret (results_2c (t := 2) (p := 3) (ty := 24) rfl _ _ (w.heap.size + 1) 24 (brC ⟨sl, true, wrap64 (ct + 1), s0, s1⟩) _ rfl ?_ Tryz.underlying24 rfl (by kernel_rfl)) rfl ?_
      · show ((w.alloc _).alloc _).heap[w.heap.size + 1]? = _
        have h := fun X Y => (show ((w.alloc X).alloc Y).heap[w.heap.size + 1]? = some Y from by have := heap_alloc_new (w.alloc X) Y; rwa [World.size_alloc] at this)
        exact h _ _
      · rw [HV.out]
        exact ⟨rfl, (((Below.refl _ w).alloc (Nat.le_refl _) _).alloc (by simp) _).drew⟩
    · have HV : Box (V = (wrap64 (1 - sl), ⟨wrap64 (1 - sl), false, 0, s0, s1⟩)) := ⟨by rw [hV, if_neg h1]⟩
      clear hV
      go_enter Tryz.func10, Tryz.ntmps10
      go_wp2_with fail
      go_region
      go_wp2_with fail
      refine bodyPost_ret (results_2c (t := 2) (p := 3) (ty := 24) rfl _ _ (w.heap.size + 1) 24 (brC ⟨wrap64 (1 - sl), false, 0, s0, s1⟩) _ rfl ?_ Tryz.underlying24 rfl (by kernel_rfl)) rfl ?_
      · show ((w.alloc _).alloc _).heap[w.heap.size + 1]? = _
        have h := fun X Y => (show ((w.alloc X).alloc Y).heap[w.heap.size + 1]? = some Y from by have := heap_alloc_new (w.alloc X) Y; rwa [World.size_alloc] at this)
        exact h _ _
      · rw [HV.out]
        exact ⟨rfl, (((Below.refl _ w).alloc (Nat.le_refl _) _).alloc (by simp) _).drew⟩
theorem bclone_any (g q q' : Nat) (t : BS) (w : World) (h : Bt w g q t) : Calls Tryz.prog 31 #[.pointer (some ⟨g, 0, none⟩), .pointer (some ⟨q', 0, none⟩)] w fun e w' => ∃ g', e = .returned (.pointer (some ⟨g', 0, none⟩)) ∧ w.heap.size ≤ g' ∧ Bt w' g' q' t ∧ Below w.heap.size w w' := by
  obtain ⟨c0, c1, c2, c3, c4, c5, c6, c7, c8⟩ := h.cells
  clear h
  go_enter Tryz.func31, Tryz.ntmps31
  go_wp2
  go_ret
  exact ⟨w.heap.size, rfl, Nat.le_refl _, ⟨heap_alloc_new _ _⟩, (Below.refl _ w).alloc (Nat.le_refl _) _⟩
end Go.Proofs.YtgcbmjflodgnbaaGreatDoor
namespace Go.Proofs.YtgcbmjflodgnbaaGreatDoor
set_option maxRecDepth 100000
set_option linter.unusedVariables false
open Go Go.RowKit

/-- What Format leaves. -/
def BFmt (F : Nat) (q p bb cb : Nat) (w : World) (r : FS × BS × Int) (e : Ending) (w' : World) : Prop :=
  Fl 84 w' p bb cb r.1 ∧ r.1.Ok ∧ Upd [p, bb, cb] w w' ∧
  ((r.2.2 ≠ 0 ∧ e = .returned (.tuple #[.pointer none, .int .i64 r.2.2])) ∨ (r.2.2 = 0 ∧ ∃ g, e = .returned (.tuple #[.pointer (some ⟨g, 0, none⟩), .int .i64 0]) ∧ BtS w' F g q p bb cb r.1 r.2.1 ∧ w.heap.size ≤ g))
def bs0 : BS := ⟨BR.zero, 0, 0, false⟩
set_option maxHeartbeats 4000000 in
theorem bformat_any (q p bb cb F : Nat) (s : FS) (r : BR) (w : World) (hf : Fl 84 w p bb cb s) (hok : s.Ok) (hp : Pa w q p (F : Nat) 2) (hi : In s.n.length (F : Nat) 2) (hq : q ∉ [p, bb, cb]) :
    Calls Tryz.prog 37 #[.pointer (some ⟨q, 0, none⟩), brV r] w (BFmt F q p bb cb w (s.bformat F r)) := by
  obtain ⟨R, hR⟩ : ∃ R, R = s.bformat F r := ⟨_, rfl⟩
  rw [← hR]
  unfold FS.bformat at hR
  have MA := Box.mk (fun w => may_any r w)
  have SZ := Box.mk (fun w h => size_any q p (F : Nat) 2 s.n.length w h hi)
  have LT0 := hf.lt; have LT2 := hp.lt
  obtain ⟨b0, hb0⟩ : ∃ b0, b0 = w.heap.size := ⟨_, rfl⟩
  have ROW0 := Box.mk (show (w.alloc (.cells (brC r) 24)).heap[b0]? = some (.cells (brC r) 24 (0, 0)) from by rw [hb0]; exact heap_alloc_new _ _)
  have F0 := Box.mk (hf.upd ((Upd.refl [] w).alloc (.cells (brC r) 24)) (by simp) (by simp) (by simp))
  have P0 := Box.mk (hp.upd ((Upd.refl [] w).alloc (.cells (brC r) 24)) (by simp))
  have U0 := Box.mk ((Upd.refl [p, bb, cb] w).alloc (.cells (brC r) 24))
  have NB := Box.mk (show b0 ∉ [p, bb, cb] ∧ w.heap.size ≤ b0 from ⟨by simp only [List.mem_cons, List.not_mem_nil, or_false, not_or]; omega, by omega⟩)
  have HOK := Box.mk hok; have HI := Box.mk hi; have HQ := Box.mk hq
  clear hf hp hok hi hq LT0 LT2
  unfold brV
  unfold brC at *
  cases hm : r.may with
  | false => as_aux_lemma =>
    rw [if_pos hm] at hR
    rw [hm] at MA
    subst hR
    clear hm ROW0
    unfold brV brC at MA
    go_enter Tryz.func37, Tryz.ntmps37
    go_wp2_with fail
    refine (SZ.out _ P0.out).mono ?_
    rintro e w1 ⟨rfl, rfl⟩
    go_wp2_with fail
    refine (MA.out _).mono ?_
    rintro e w1 ⟨rfl, hb⟩
    have F1 := Box.mk (F0.out.upd (Upd.of_below (S := []) hb) (by simp) (by simp) (by simp)); have U1 := Box.mk (U0.out.trans (Upd.of_below (S := [p, bb, cb]) hb)); clear hb
    go_wp2_with fail
    go_ret2
    exact ⟨F1.out, HOK.out, U1.out, .inl ⟨by show (130 : Int) ≠ 0; decide, rfl⟩⟩
  | true => as_aux_lemma =>
    rw [if_neg (by rw [hm]; decide)] at hR
    rw [hm] at MA
    have HMAY := Box.mk ((BR.may_iff r).1 hm)
    clear hm
    unfold brV brC at MA
    dsimp only at hR
    have HR := Box.mk hR
    clear hR
    go_enter Tryz.func37, Tryz.ntmps37
    go_wp2_with fail
    refine (SZ.out _ P0.out).mono ?_
    rintro e w1 ⟨rfl, rfl⟩
    go_wp2_with fail
    refine (MA.out _).mono ?_
    rintro e w1 ⟨rfl, hb⟩
    have F1 := Box.mk (F0.out.upd (Upd.of_below (S := []) hb) (by simp) (by simp) (by simp)); have P1 := Box.mk (P0.out.upd (Upd.of_below (S := []) hb) (by simp))
    have U1 := Box.mk (U0.out.trans (Upd.of_below (S := [p, bb, cb]) hb))
    have ROW1 := Box.mk ((hb.block b0 (Array.getElem?_eq_some_iff.1 ROW0.out).1).trans ROW0.out)
    clear hb F0 P0 U0 ROW0 MA SZ
    rw [← hb0]
    clear hb0
    obtain ⟨g, hg⟩ : ∃ g, g = w1.heap.size := ⟨_, rfl⟩
    have LT0 := F1.out.lt; have LT2 := P1.out.lt; have LT3 := (Array.getElem?_eq_some_iff.1 ROW1.out).1
    obtain ⟨W2, hW2⟩ : ∃ W2, W2 = w1.alloc (.cells #[.pointer (some ⟨q, 0, none⟩), .int .i64 0, .bool false, .int .i64 0, .int .i64 0, .int .i64 0, .int .i64 0, .int .i64 0, .bool false] 79) := ⟨_, rfl⟩
    have H2 : Box (BtS W2 F g q p bb cb s bs0) := ⟨by
      rw [hW2]
      exact ⟨⟨by have := HQ.out; simp only [List.mem_cons, List.not_mem_nil, or_false, not_or] at this ⊢; omega, by simp only [List.mem_cons, List.not_mem_nil, or_false, not_or]; omega⟩,
        F1.out.upd ((Upd.refl [] _).alloc _) (by simp) (by simp) (by simp), HOK.out, P1.out.upd ((Upd.refl [] _).alloc _) (by simp), HI.out, ⟨by rw [hg]; exact heap_alloc_new _ _⟩⟩⟩
    have U2 : Box (Upd [p, bb, cb] w W2) := ⟨by rw [hW2]; exact U1.out.alloc _⟩
    have ROW2 := Box.mk (show W2.heap[b0]? = some (.cells #[.int .i64 r.slot, .bool r.up, .int .i64 r.count, .int .i64 r.s0, .int .i64 r.s1] 24 (0, 0)) from by rw [hW2]; exact (heap_alloc_old _ _ LT3).trans ROW1.out)
    have EXT : Box (∀ i, i ∈ [g, p, bb, cb] → i ∈ [p, bb, cb] ∨ w.heap.size ≤ i) := ⟨fun i hi => by
      rcases List.mem_cons.1 hi with rfl | hi
      · have := U1.out.size; exact .inr (by omega)
      · exact .inl hi⟩
    have NG := Box.mk (show b0 ∉ [g, p, bb, cb] ∧ b0 ≠ g ∧ w.heap.size ≤ g from ⟨by have := NB.out.1; simp only [List.mem_cons, List.not_mem_nil, or_false, not_or] at this ⊢; omega, by omega, by have := U1.out.size; omega⟩)
    clear LT0 LT2 LT3 F1 P1 U1 ROW1
    have CL := Box.mk (fun s t k w (h : BtS w F g q p bb cb s t) (hk : k ≤ 256) => bclean_any g q p bb cb F s t k w h hk)
    have C0 := Box.mk (CL.out s bs0 0 W2 H2.out (by omega))
    obtain ⟨c, hc⟩ : ∃ c, c = s.bclean F bs0 0 := ⟨_, rfl⟩
    have HR1 := Box.mk (show R = if c.2.2 ≠ 0 then c else if (c.1.bclean F c.2.1 1).2.2 ≠ 0 then c.1.bclean F c.2.1 1 else (c.1.bclean F c.2.1 1).1.bkeep F (c.1.bclean F c.2.1 1).2.1 r 1 0 0 from by rw [hc]; exact HR.out)
    rw [← hc, show ((0 : Nat) : Int) = 0 from rfl] at C0
    clear hc HR
    obtain ⟨s1, t1, e1⟩ := c
    dsimp only at C0 HR1
    go_wp2_with fail
    rw [← hW2, ← hg]
    clear hW2 hg
    refine wp_loop_rounds 3 ?_
    rw [rounds_succ]
    go_wp2_with fail
    refine C0.out.mono ?_
    rintro e w3 ⟨rfl, hl, hu⟩
    have H3 := Box.mk hl; have U3 := Box.mk (U2.out.ext hu EXT.out)
    have ROW3 := Box.mk ((hu.block b0 (Array.getElem?_eq_some_iff.1 ROW2.out).1 NG.out.1).trans ROW2.out)
    clear hl hu H2 U2 ROW2 C0
    by_cases he1 : e1 = 0
    · have he1b : (e1 != 0) = false := by simpa using he1
      have hr := HR1.out
      rw [if_neg (by simpa using he1)] at hr
      have C1 := Box.mk (CL.out s1 t1 1 w3 H3.out (by omega))
      generalize s1.bclean F t1 1 = c at C1 hr
      obtain ⟨s2, t2, e2⟩ := c
      dsimp only at C1 hr
      rw [show ((1 : Nat) : Int) = 1 from rfl] at C1
      have HR2 := Box.mk hr
      clear hr he1 HR1 CL
      go_wp2_with fail
      rw [rounds_succ]
      go_wp2_with fail
      refine C1.out.mono ?_
      rintro e w4 ⟨rfl, hl, hu⟩
      have H4 := Box.mk hl; have U4 := Box.mk (U3.out.ext hu EXT.out)
      have ROW4 := Box.mk ((hu.block b0 (Array.getElem?_eq_some_iff.1 ROW3.out).1 NG.out.1).trans ROW3.out)
      clear hl hu H3 U3 ROW3 C1
      by_cases he2 : e2 = 0
      · have he2b : (e2 != 0) = false := by simpa using he2
        have hr := HR2.out
        rw [if_neg (by simpa using he2)] at hr
        have KP := Box.mk (bkeep_any g q p bb cb F s2 t2 r 1 0 0 w4 H4.out HMAY.out (by omega) (by omega) (by omega))
        have KO := Box.mk (FS.bkeep_ok H4.out.ok F t2 r 1 0 0).1
        generalize s2.bkeep F t2 r 1 0 0 = c at KP hr KO
        obtain ⟨s3, t3, e3⟩ := c
        dsimp only at KP hr KO
        rw [show ((1 : Nat) : Int) = 1 from rfl, show ((0 : Nat) : Int) = 0 from rfl] at KP
        unfold brV brC at KP
        subst hr
        clear he2 HR2
        obtain ⟨k0, k1, k2, k3, k4⟩ : w4.cell? ⟨b0, 0, none⟩ = some (.int .i64 r.slot) ∧ w4.cell? ⟨b0, 1, none⟩ = some (.bool r.up) ∧ w4.cell? ⟨b0, 2, none⟩ = some (.int .i64 r.count) ∧ w4.cell? ⟨b0, 3, none⟩ = some (.int .i64 r.s0) ∧ w4.cell? ⟨b0, 4, none⟩ = some (.int .i64 r.s1) := by
          refine ⟨?_, ?_, ?_, ?_, ?_⟩ <;> (rw [cell_of_row _ _ _ _ _ _ ROW4.out]; rfl)
        go_wp2_with fail
        rw [rounds_succ]
        go_wp2_with fail
        refine KP.out.mono ?_
        rintro e w5 ⟨rfl, hl, hu⟩
        have H5 := Box.mk hl; have U5 := Box.mk (U4.out.ext hu EXT.out)
        clear hl hu H4 U4 ROW4 KP k0 k1 k2 k3 k4
        by_cases he3 : e3 = 0
        · have he3b : (e3 != 0) = false := by simpa using he3
          have HE := Box.mk he3
          clear he3
          go_wp2_with fail
          go_ret2
          exact ⟨H5.out.f, KO.out, U5.out, .inr ⟨HE.out, g, rfl, H5.out, NG.out.2.2⟩⟩
        · have he3b : (e3 != 0) = true := by rw [bne_iff_ne]; exact he3
          have HE := Box.mk he3
          clear he3
          go_wp2_with fail
          go_ret2
          exact ⟨H5.out.f, KO.out, U5.out, .inl ⟨HE.out, rfl⟩⟩
      · have he2b : (e2 != 0) = true := by rw [bne_iff_ne]; exact he2
        have hr := HR2.out
        rw [if_pos (by simpa using he2)] at hr
        subst hr
        have HE := Box.mk he2
        clear he2 HR2
        go_wp2_with fail
        go_ret2
        exact ⟨H4.out.f, H4.out.ok, U4.out, .inl ⟨HE.out, rfl⟩⟩
    · have he1b : (e1 != 0) = true := by rw [bne_iff_ne]; exact he1
      have hr := HR1.out
      rw [if_pos (by simpa using he1)] at hr
      subst hr
      have HE := Box.mk he1
      clear he1 HR1
      go_wp2_with fail
      go_ret2
      exact ⟨H3.out.f, H3.out.ok, U3.out, .inl ⟨HE.out, rfl⟩⟩
end Go.Proofs.YtgcbmjflodgnbaaGreatDoor

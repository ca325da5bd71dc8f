/- The document of the package curve: elements and points as values; D, At, the sum. -/
import Derived.Test.YtafhncpaoolljaaGreatM30
import Derived.Test.YtafhncpaoolljaaGreatM24
namespace Go.Proofs.YtafhncpaoolljaaGreat.Fe
set_option maxRecDepth 100000
set_option linter.unusedVariables false
open Go Go.RowKit
def qd (x : F) : Nat → Nat := dg x.val
theorem val_dw (x : F) : x.val < dw 16 := Nat.lt_trans x.isLt fp_dw
section
variable (x y : F) (w : World)
theorem qtimes : Calls Tryz.prog 76 #[.agg (ncell (qd x)), .agg (ncell (qd y))] w fun e w' => e = .returned (.agg (ncell (qd (x * y)))) ∧ Gr w w' :=
 (timesD w x.val y.val (val_dw x) (val_dw y)).mono fun _ _ ⟨he, hg⟩ => ⟨by rw [he]; unfold qd; rw [Fin.val_mul], hg⟩
theorem qplus : Calls Tryz.prog 105 #[.agg (ncell (qd x)), .agg (ncell (qd y))] w fun e w' => e = .returned (.agg (ncell (qd (x + y)))) ∧ Gr w w' :=
 (plusD w x.val y.val (val_dw x) (val_dw y)).mono fun _ _ ⟨he, hg⟩ => ⟨by rw [he]; unfold qd; rw [Fin.val_add], hg⟩
theorem sub_val' : (x - y).val = (x.val + (fp - y.val)) % fp := by
 have h := fv_sub (a := x.val) (b := y.val) (Nat.le_of_lt y.isLt)
 rw [fv_of, fv_of] at h
 rw [← h, fv_val]
theorem qminus : Calls Tryz.prog 104 #[.agg (ncell (qd x)), .agg (ncell (qd y))] w fun e w' => e = .returned (.agg (ncell (qd (x - y)))) ∧ Gr w w' :=
 (minusD x.val y.val (val_dw x) (Nat.le_of_lt y.isLt) w).mono fun _ _ ⟨he, hg⟩ => ⟨by rw [he]; unfold qd; rw [sub_val'], hg⟩
theorem qinv : Calls Tryz.prog 78 #[.agg (ncell (qd x))] w fun e w' => e = .returned (.agg (ncell (qd (fi x)))) ∧ Gr w w' :=
 (inverseD x.val (val_dw x) w).mono fun _ _ ⟨he, hg⟩ => ⟨by rw [he]; unfold qd fi; rw [fv_val], hg⟩
theorem qbytes : Calls Tryz.prog 75 #[.agg (ncell (qd x))] w fun e w' => e = .returned (.string (sbytes x.val)) ∧ Gr w w' := bytesD x.val w
theorem qroots : Calls Tryz.prog 103 #[.agg (ncell (qd x))] w fun e w' => e = .returned (.tuple #[.agg (ncell (qd (fv (rtN x.val).1))), .bool (rtN x.val).2]) ∧ Gr w w' :=
 (rootsD w x.val x.isLt).mono fun _ _ ⟨he, hg⟩ => ⟨by rw [he]; unfold qd; rw [fv_val, Nat.mod_eq_of_lt (rt_lt _)], hg⟩
end
theorem fp_32 : 4294967296 < fp := by rw [fp_eq]; decide
theorem qsmall (n : Nat) (hn : n < 4294967296) (w : World) : Calls Tryz.prog 77 #[.int .i64 n] w fun e w' => e = .returned (.agg (ncell (qd (fv n)))) ∧ Gr w w' :=
 (smallD w n hn).mono fun _ _ ⟨he, hg⟩ => ⟨by rw [he]; unfold qd; rw [fv_val, Nat.mod_eq_of_lt (Nat.lt_trans hn fp_32)], hg⟩
theorem qsmall0 (w : World) : Calls Tryz.prog 77 #[.int .i64 0] w fun e w' => e = .returned (.agg (ncell (qd 0))) ∧ Gr w w' := qsmall 0 (by omega) w
theorem qsmall1 (w : World) : Calls Tryz.prog 77 #[.int .i64 1] w fun e w' => e = .returned (.agg (ncell (qd 1))) ∧ Gr w w' := qsmall 1 (by omega) w
theorem qnum (s : ByteArray) (hs : s.size = 32) (w : World) : Calls Tryz.prog 102 #[.string s] w fun e w' => e = .returned (.agg (ncell (qd (fv (Go.Proofs.YtafhncpaoolljaaGreat.num s))))) ∧ Gr w w' :=
 (numD s hs w).mono fun _ _ ⟨he, hg⟩ => ⟨by rw [he]; unfold qd; rw [fv_val], hg⟩
def qcell (f g h : Nat → Nat) : Array Value := #[.int .i64 (f 0 : Nat), .int .i64 (f 1 : Nat), .int .i64 (f 2 : Nat), .int .i64 (f 3 : Nat), .int .i64 (f 4 : Nat), .int .i64 (f 5 : Nat), .int .i64 (f 6 : Nat), .int .i64 (f 7 : Nat), .int .i64 (f 8 : Nat), .int .i64 (f 9 : Nat), .int .i64 (f 10 : Nat), .int .i64 (f 11 : Nat), .int .i64 (f 12 : Nat), .int .i64 (f 13 : Nat), .int .i64 (f 14 : Nat), .int .i64 (f 15 : Nat), .int .i64 (g 0 : Nat), .int .i64 (g 1 : Nat), .int .i64 (g 2 : Nat), .int .i64 (g 3 : Nat), .int .i64 (g 4 : Nat), .int .i64 (g 5 : Nat), .int .i64 (g 6 : Nat), .int .i64 (g 7 : Nat), .int .i64 (g 8 : Nat), .int .i64 (g 9 : Nat), .int .i64 (g 10 : Nat), .int .i64 (g 11 : Nat), .int .i64 (g 12 : Nat), .int .i64 (g 13 : Nat), .int .i64 (g 14 : Nat), .int .i64 (g 15 : Nat), .int .i64 (h 0 : Nat), .int .i64 (h 1 : Nat), .int .i64 (h 2 : Nat), .int .i64 (h 3 : Nat), .int .i64 (h 4 : Nat), .int .i64 (h 5 : Nat), .int .i64 (h 6 : Nat), .int .i64 (h 7 : Nat), .int .i64 (h 8 : Nat), .int .i64 (h 9 : Nat), .int .i64 (h 10 : Nat), .int .i64 (h 11 : Nat), .int .i64 (h 12 : Nat), .int .i64 (h 13 : Nat), .int .i64 (h 14 : Nat), .int .i64 (h 15 : Nat)]
theorem qcell_one (f g h : Nat → Nat) : (qcell f g h).all (·.oneCell') = true := by simp [qcell, Value.oneCell']
theorem zeroQ (w : World) : (zeroValue 96).run Tryz.prog w = .ok (.agg (qcell f0 f0 f0)) w := by kernel_rfl
theorem subq_x (f g h : Nat → Nat) : ∀ (j : Nat) (v : Value), (ncell f).toList[j]? = some v → (qcell f g h)[0 + j]? = some v
 | 0, _, h => h | 1, _, h => h | 2, _, h => h | 3, _, h => h | 4, _, h => h | 5, _, h => h | 6, _, h => h | 7, _, h => h | 8, _, h => h | 9, _, h => h | 10, _, h => h | 11, _, h => h | 12, _, h => h | 13, _, h => h | 14, _, h => h | 15, _, h => h | n + 16, _, h => by simp [ncell] at h
theorem subq_y (f g h : Nat → Nat) : ∀ (j : Nat) (v : Value), (ncell g).toList[j]? = some v → (qcell f g h)[16 + j]? = some v
 | 0, _, h => h | 1, _, h => h | 2, _, h => h | 3, _, h => h | 4, _, h => h | 5, _, h => h | 6, _, h => h | 7, _, h => h | 8, _, h => h | 9, _, h => h | 10, _, h => h | 11, _, h => h | 12, _, h => h | 13, _, h => h | 14, _, h => h | 15, _, h => h | n + 16, _, h => by simp [ncell] at h
theorem subq_z (f g h : Nat → Nat) : ∀ (j : Nat) (v : Value), (ncell h).toList[j]? = some v → (qcell f g h)[32 + j]? = some v
 | 0, _, h => h | 1, _, h => h | 2, _, h => h | 3, _, h => h | 4, _, h => h | 5, _, h => h | 6, _, h => h | 7, _, h => h | 8, _, h => h | 9, _, h => h | 10, _, h => h | 11, _, h => h | 12, _, h => h | 13, _, h => h | 14, _, h => h | 15, _, h => h | n + 16, _, h => by simp [ncell] at h
theorem qfield0 (b : Nat) (w : World) : (Instr.fieldAt 96 (.pointer (some ⟨b, 0, none⟩)) 0).run Tryz.prog w = .ok (.pointer (some ⟨b, 0, none⟩)) w := by kernel_rfl
theorem qfield1 (b : Nat) (w : World) : (Instr.fieldAt 96 (.pointer (some ⟨b, 0, none⟩)) 1).run Tryz.prog w = .ok (.pointer (some ⟨b, 16, none⟩)) w := by kernel_rfl
theorem qfield2 (b : Nat) (w : World) : (Instr.fieldAt 96 (.pointer (some ⟨b, 0, none⟩)) 2).run Tryz.prog w = .ok (.pointer (some ⟨b, 32, none⟩)) w := by kernel_rfl
theorem qbuild3 (f g h : Nat → Nat) (w : World) : (Instr.build 96 #[(0, .agg (ncell f)), (1, .agg (ncell g)), (2, .agg (ncell h))]).run Tryz.prog w = .ok (.agg (qcell f g h)) w := by kernel_rfl
theorem qbuild1 (f : Nat → Nat) (w : World) : (Instr.build 96 #[(0, .agg (ncell f))]).run Tryz.prog w = .ok (.agg (qcell f f0 f0)) w := by kernel_rfl
theorem qbuild0 (w : World) : (Instr.build 96 #[]).run Tryz.prog w = .ok (.agg (qcell f0 f0 f0)) w := by kernel_rfl
section
variable {W : World} {S : List Nat} {T : (World → Prop) → List Nat → Act → Prop} {L : List (Oper × Kd)} {F : World → Prop} {N : List Nat} {a : Act} {o : Oper}
theorem gm_loadQ (p : Operand) (ho : o.op = .load 96 p) (b : Nat) (x y z : Nat → Nat) (hb : W.heap[b]? = some (.cells (qcell x y z) 96 (0, 0))) (hx : a.eval p = .pointer (some ⟨b, 0, none⟩))
   (h : wpG Tryz.prog W [] T L F N (a.put o.dst (.agg (qcell x y z)))) : wpG Tryz.prog W [] T ((o, .flo) :: L) F N a :=
 gm_load p ho b (qcell x y z) 96 (0, 0) _ hb hx Tryz.underlying96 rfl (by kernel_rfl) h
theorem gm_loadG (p : Operand) (ho : o.op = .load 94 p) (b off : Nat) (f : Nat → Nat) (cs : Array Value) (hb : W.heap[b]? = some (.cells cs 96 (0, 0))) (hs : ∀ (j : Nat) (v : Value), (ncell f).toList[j]? = some v → cs[off + j]? = some v) (hx : a.eval p = .pointer (some ⟨b, off, none⟩))
   (h : wpG Tryz.prog W [] T L F N (a.put o.dst (.agg (ncell f)))) : wpG Tryz.prog W [] T ((o, .flo) :: L) F N a :=
 ⟨_, fun w hw => .inl <| by
   unfold execOp
   simp only [ho, hx, Instr.loadAt, Instr.sureAddr, Sem.run_bind, Sem.run_pure, Result.andThen_ok, run_loadVar_sub w b off 96 94 cs (ncell f).toList (0, 0) _ (hw.at (fun h => by cases h) hb) hs Tryz.underlying94 rfl (by kernel_rfl)], h⟩
theorem gm_fieldQ (i off : Nat) (p : Operand) (ho : o.op = .fieldAddr 96 p i) (b : Nat) (hx : a.eval p = .pointer (some ⟨b, 0, none⟩)) (hr : ∀ w, (Instr.fieldAt 96 (.pointer (some ⟨b, 0, none⟩)) i).run Tryz.prog w = .ok (.pointer (some ⟨b, off, none⟩)) w)
   (h : wpG Tryz.prog W S T L F N (a.put o.dst (.pointer (some ⟨b, off, none⟩)))) : wpG Tryz.prog W S T ((o, .flo) :: L) F N a :=
 ⟨_, fun w _ => .inl <| by unfold execOp; simp only [ho, hx, Sem.run_bind, hr, Result.andThen_ok, Sem.run_pure], h⟩
end
theorem wpList_storeQ {ops : Array Oper} {rest : List Oper} {o : Oper} {a : Act} {w : World} {Q : Exit → Act → World → Prop} (hgd : o.guard = none) (p y : Operand) (ho : o.op = .store 96 p y)
   (g : Nat) (x' y' z' : Nat → Nat) (old : Array Value) (hsz : old.size = 48) (hg : w.heap[g]? = some (.cells old 96 (0, 0))) (hx : a.eval p = .pointer (some ⟨g, 0, none⟩)) (hy : a.eval y = .agg (qcell x' y' z'))
   (h : wpList Tryz.prog ops Q rest (a.put o.dst undef) (w.setRow g (qcell x' y' z'))) : wpList Tryz.prog ops Q (o :: rest) a w :=
 wpList_store_row hgd 96 p y ho g (qcell x' y' z') hx hy 96 old hg (by kernel_rfl) hsz (qcell_one _ _ _) h
theorem fv666 : fv 121666 ≠ 0 := fun h => by
 have e : 121666 % fp = 0 := congrArg Fin.val h
 rw [fp_eq] at e
 revert e; decide
theorem cd_doc : (fv 0 - fv 121665) * fi (fv 121666) = cd := by
 have h1 : fv 121666 * fi (fv 121666) = 1 := fi_mul fv666
 have h2 : cd * fv 121666 = fv 0 - fv 121665 := by
   have e : cd * fv 121666 + fv 121665 = fv 0 := by
     show fv dN * fv 121666 + fv 121665 = fv 0
     rw [← fv_mul, ← fv_add]
     refine fv_eq ?_
     rw [fp_eq, dN_eq]
   grind
 rw [← h2]; grind
@[irreducible] def elB (s : ByteArray) : Bool := decide (s.size = 32 ∧ Go.Proofs.YtafhncpaoolljaaGreat.num s < fp)
theorem elB_eq (s : ByteArray) : elB s = decide (s.size = 32 ∧ Go.Proofs.YtafhncpaoolljaaGreat.num s < fp) := by unfold elB; first | done | rfl
set_option maxRecDepth 100000 in
set_option maxHeartbeats 1000000 in
theorem qis (s : ByteArray) (hs : s.size = 32) (w : World) : Calls Tryz.prog 101 #[.string s] w fun e w' => e = .returned (.bool (elB s)) ∧ Gr w w' := by
 have h' : ((s.size : Int) == 32) = true := by rw [beq_iff_eq]; omega
 have H := Box.mk hs; clear hs
 go_enter Tryz.func101, Tryz.ntmps101
 go_wp2_with fail
 refine (digitsD s H.out _).mono ?_
 rintro e w1 ⟨rfl, hg⟩
 have HG := Box.mk hg; clear hg
 go_wp2_with fail
 refine (pD _).mono ?_
 rintro e w2 ⟨rfl, hg⟩
 replace HG := Box.mk (HG.out.trans hg); clear hg
 go_wp2_with fail
 refine (belowD _ _ _ (num_dw s H.out) fp_dw).mono ?_
 rintro e w3 ⟨rfl, hg⟩
 replace HG := Box.mk (HG.out.trans hg); clear hg
 have hl : ltN (Go.Proofs.YtafhncpaoolljaaGreat.num s) fp = elB s := by
   rw [ltN_eq, elB_eq]; simp [H.out]
 rw [hl]
 clear hl
 go_wp2
 go_ret
 exact ⟨rfl, HG.out⟩
@[irreducible] def zB (x : F) : Bool := decide (x = 0)
theorem zB_eq (x : F) : zB x = decide (x = 0) := by unfold zB; first | done | rfl
theorem not_lt_zero_val (x : F) : (!ltN (0 : F).val x.val) = zB x := by
 have e : (0 : F).val = 0 := rfl
 rw [ltN_eq, zB_eq, e]
 by_cases h : x = 0
 · subst h; rw [e]; simp
 · have : 0 < x.val := Nat.pos_of_ne_zero fun e => h (Fin.ext e)
   rw [decide_eq_true this, decide_eq_false h]; rfl
set_option maxRecDepth 100000 in
set_option maxHeartbeats 8000000 in
theorem rD (w : World) : Calls Tryz.prog 81 #[] w fun e w' => e = .returned (.agg (ncell (qd cd))) ∧ Gr w w' := by
 have hz := zeroN
 obtain ⟨W0, hW0⟩ : ∃ W, W = w.alloc (.cells (ncell f0) 94) := ⟨_, rfl⟩
 have g0 : W0.heap[w.heap.size]? = some (.cells (ncell f0) 94 (0, 0)) := by rw [hW0]; exact heap_alloc_new _ _
 have GR := Box.mk g0; have B0 := Box.mk (show Gr w W0 from by rw [hW0]; exact Gr.alloc _ _); clear g0
 obtain ⟨br, hbr⟩ : ∃ b, b = w.heap.size := ⟨_, rfl⟩
 have nb_br : w.heap.size ≤ br := by omega
 rw [← hbr] at GR
 go_enter Tryz.func81, Tryz.ntmps81
 go_upto_region 1 with (fail)
 rw [← hW0, ← hbr]
 clear hW0 hz hbr
 refine wp_region_seq 6 [.cha, .cha, .cha, .cha, .cha, .cha] (by rfl) rfl (by decide) ?_
 simp only [List.take, List.zip, List.zipWith]
 refine gm_call [.int .i64 0] (by kernel_rfl) rfl rfl Stb.tt (fun w1 hw1 _ => (qsmall 0 (by omega) w1).mono ?_)
 rintro e w2 ⟨rfl, hw2⟩
 refine ⟨_, rfl, hw2, ?_⟩
 try go_frame
 refine gm_call [.int .i64 121665] (by kernel_rfl) rfl rfl Stb.tt (fun w1 hw1 _ => (qsmall 121665 (by omega) w1).mono ?_)
 rintro e w2 ⟨rfl, hw2⟩
 refine ⟨_, rfl, hw2, ?_⟩
 try go_frame
 refine gm_call [.agg (ncell (qd (fv 0))), .agg (ncell (qd (fv 121665)))] (by kernel_rfl) rfl rfl Stb.tt (fun w1 hw1 _ => (qminus (fv 0) (fv 121665) w1).mono ?_)
 rintro e w2 ⟨rfl, hw2⟩
 refine ⟨_, rfl, hw2, ?_⟩
 try go_frame
 refine gm_call [.int .i64 121666] (by kernel_rfl) rfl rfl Stb.tt (fun w1 hw1 _ => (qsmall 121666 (by omega) w1).mono ?_)
 rintro e w2 ⟨rfl, hw2⟩
 refine ⟨_, rfl, hw2, ?_⟩
 try go_frame
 refine gm_call [.agg (ncell (qd (fv 121666)))] (by kernel_rfl) rfl rfl Stb.tt (fun w1 hw1 _ => (qinv (fv 121666) w1).mono ?_)
 rintro e w2 ⟨rfl, hw2⟩
 refine ⟨_, rfl, hw2, ?_⟩
 try go_frame
 refine gm_call [.agg (ncell (qd (fv 0 - fv 121665))), .agg (ncell (qd (fi (fv 121666))))] (by kernel_rfl) rfl rfl Stb.tt (fun w1 hw1 _ => (qtimes (fv 0 - fv 121665) (fi (fv 121666)) w1).mono ?_)
 rintro e w2 ⟨rfl, hw2⟩
 refine ⟨_, rfl, hw2, ?_⟩
 try go_frame
 rw [cd_doc]
 refine gm_nil ?_
 intro u1 hw7 hF7
 simp only [List.drop]
 try go_frame
 have GR' := hw7.block GR.out
 have gb : Gr w u1 := B0.out.trans hw7
 replace GR := Box.mk (show u1.heap[br]? = some (.cells (ncell (f0)) 94 (0, 0)) from GR')
 replace B0 := Box.mk (show Gr w u1 from gb)
 clear gb hF7 hw7 GR'
 go_wp2_with ((with_reducible refine wpList_storeN rfl (.tmp 0) (.tmp 6) rfl br (qd cd) f0 GR.out ?_ ?_ ?_); rfl; rfl)
 exact bodyPost_ret (results_cell_row (p := 0) (ty := 94) rfl _ _ br 94 (ncell (qd cd)) (0, 0) _ rfl (setRow_heap _ _ _ _ _ _ GR.out) Tryz.underlying94 rfl (by kernel_rfl)) rfl ⟨rfl, B0.out.setRow nb_br _⟩
set_option maxRecDepth 100000 in
set_option maxHeartbeats 8000000 in
theorem rAt (x y : F) (w : World) : Calls Tryz.prog 107 #[.agg (ncell (qd x)), .agg (ncell (qd y))] w fun e w' => e = .returned (.agg (qcell (qd x) (qd y) (qd 1))) ∧ Gr w w' := by
 obtain ⟨W0, hW0⟩ : ∃ W, W = (((w.alloc (.cells (ncell (qd x)) 94)).alloc (.cells (ncell (qd y)) 94)).alloc (.cells (qcell f0 f0 f0) 96)) := ⟨_, rfl⟩
 have g0 : W0.heap[w.heap.size + 0]? = some (.cells (ncell (qd x)) 94 (0, 0)) := by
   rw [hW0]
   rw [heap_alloc_old _ _ (by simp <;> omega)]
   rw [heap_alloc_old _ _ (by simp <;> omega)]
   have := heap_alloc_new w (.cells (ncell (qd x)) 94)
   simpa using this
 have g1 : W0.heap[w.heap.size + 1]? = some (.cells (ncell (qd y)) 94 (0, 0)) := by
   rw [hW0]
   rw [heap_alloc_old _ _ (by simp <;> omega)]
   have := heap_alloc_new (w.alloc (.cells (ncell (qd x)) 94)) (.cells (ncell (qd y)) 94)
   simpa using this
 have g2 : W0.heap[w.heap.size + 2]? = some (.cells (qcell f0 f0 f0) 96 (0, 0)) := by
   rw [hW0]
   have := heap_alloc_new ((w.alloc (.cells (ncell (qd x)) 94)).alloc (.cells (ncell (qd y)) 94)) (.cells (qcell f0 f0 f0) 96)
   simpa using this
 have B0 := Box.mk (show Gr w W0 from by rw [hW0]; exact ((Gr.alloc _ _).trans (Gr.alloc _ _)).trans (Gr.alloc _ _))
 obtain ⟨bx, hbx⟩ : ∃ b, b = w.heap.size + 0 := ⟨_, rfl⟩
 obtain ⟨by_, hby_⟩ : ∃ b, b = w.heap.size + 1 := ⟨_, rfl⟩
 obtain ⟨br, hbr⟩ : ∃ b, b = w.heap.size + 2 := ⟨_, rfl⟩
 rw [← hbx] at g0
 rw [← hby_] at g1
 rw [← hbr] at g2
 have nb_bx : w.heap.size ≤ bx := by omega
 have ne_bx_by_ : bx ≠ by_ := by omega
 have nb_by_ : w.heap.size ≤ by_ := by omega
 have ne_bx_br : bx ≠ br := by omega
 have ne_by__br : by_ ≠ br := by omega
 have nb_br : w.heap.size ≤ br := by omega
 have GX := Box.mk g0; have GY := Box.mk g1; have GR := Box.mk g2
 clear g0 g1 g2
 have hz := zeroQ
 go_enter Tryz.func107, Tryz.ntmps107
 go_upto_region 1 with (fail)
 simp only [Nat.add_zero] at hbx
 rw [← hW0, ← hbr, ← hby_, ← hbx]
 clear hW0 hz hbr hby_ hbx
 refine wp_region_mix 4 [.flo, .flo, .cha, .flo] (by kernel_rfl) (by kernel_rfl) rfl ?_
 simp only [List.take, List.zip, List.zipWith]
 refine gm_loadN (.tmp 2) rfl bx (qd x) GX.out rfl ?_
 try go_frame
 refine gm_loadN (.tmp 3) rfl by_ (qd y) GY.out rfl ?_
 try go_frame
 refine gm_call [.int .i64 1] (by kernel_rfl) rfl rfl Stb.tt (fun w1 hw1 _ => (qsmall1 w1).mono ?_)
 rintro e w2 ⟨rfl, hw2⟩
 refine ⟨_, rfl, hw2, ?_⟩
 try go_frame
 refine gm_build [(0, .agg (ncell (qd x))), (1, .agg (ncell (qd y))), (2, .agg (ncell (qd 1)))] rfl rfl _ (qbuild3 (qd x) (qd y) (qd 1)) ?_
 try go_frame
 refine gm_nil ?_
 intro u1 hw7 hF7
 simp only [List.drop]
 try go_frame
 have GX' := hw7.block GX.out
 have GY' := hw7.block GY.out
 have GR' := hw7.block GR.out
 have gb : Gr w u1 := B0.out.trans (Gr.trans (show Gr W0 W0.drew from (Below.refl _ _).drew) hw7)
 replace GX := Box.mk (show u1.heap[bx]? = some (.cells (ncell (qd x)) 94 (0, 0)) from GX')
 replace GY := Box.mk (show u1.heap[by_]? = some (.cells (ncell (qd y)) 94 (0, 0)) from GY')
 replace GR := Box.mk (show u1.heap[br]? = some (.cells (qcell f0 f0 f0) 96 (0, 0)) from GR')
 replace B0 := Box.mk (show Gr w u1 from gb)
 clear gb hF7 hw7 GX' GY' GR'
 go_wp2_with ((with_reducible refine wpList_storeQ rfl (.tmp 4) (.tmp 8) rfl br (qd x) (qd y) (qd 1) (qcell f0 f0 f0) rfl GR.out ?_ ?_ ?_); rfl; rfl)
 exact bodyPost_ret (results_cell_row (p := 4) (ty := 96) rfl _ _ br 96 (qcell (qd x) (qd y) (qd 1)) (0, 0) _ rfl (setRow_heap _ _ _ _ _ _ GR.out) Tryz.underlying96 rfl (by kernel_rfl)) rfl ⟨rfl, B0.out.setRow nb_br _⟩
set_option maxRecDepth 100000 in
set_option maxHeartbeats 8000000 in
theorem rPlus {X1 Y1 Z1 X2 Y2 Z2 : F} {p q : CP} (hp : Rep X1 Y1 Z1 p) (hq : Rep X2 Y2 Z2 q) (w : World) : Calls Tryz.prog 80 #[.agg (qcell (qd X1) (qd Y1) (qd Z1)), .agg (qcell (qd X2) (qd Y2) (qd Z2)), .agg (qcell (qd cd) f0 f0)] w fun e w' => ∃ X Y Z, e = .returned (.agg (qcell (qd X) (qd Y) (qd Z))) ∧ Rep X Y Z (p.add q) ∧ Gr w w' := by
 obtain ⟨W0, hW0⟩ : ∃ W, W = ((((w.alloc (.cells (qcell (qd X1) (qd Y1) (qd Z1)) 96)).alloc (.cells (qcell (qd X2) (qd Y2) (qd Z2)) 96)).alloc (.cells (qcell (qd cd) f0 f0) 96)).alloc (.cells (qcell f0 f0 f0) 96)) := ⟨_, rfl⟩
 have g0 : W0.heap[w.heap.size + 0]? = some (.cells (qcell (qd X1) (qd Y1) (qd Z1)) 96 (0, 0)) := by
   rw [hW0]
   rw [heap_alloc_old _ _ (by simp <;> omega)]
   rw [heap_alloc_old _ _ (by simp <;> omega)]
   rw [heap_alloc_old _ _ (by simp <;> omega)]
   have := heap_alloc_new w (.cells (qcell (qd X1) (qd Y1) (qd Z1)) 96)
   simpa using this
 have g1 : W0.heap[w.heap.size + 1]? = some (.cells (qcell (qd X2) (qd Y2) (qd Z2)) 96 (0, 0)) := by
   rw [hW0]
   rw [heap_alloc_old _ _ (by simp <;> omega)]
   rw [heap_alloc_old _ _ (by simp <;> omega)]
   have := heap_alloc_new (w.alloc (.cells (qcell (qd X1) (qd Y1) (qd Z1)) 96)) (.cells (qcell (qd X2) (qd Y2) (qd Z2)) 96)
   simpa using this
 have g2 : W0.heap[w.heap.size + 2]? = some (.cells (qcell (qd cd) f0 f0) 96 (0, 0)) := by
   rw [hW0]
   rw [heap_alloc_old _ _ (by simp <;> omega)]
   have := heap_alloc_new ((w.alloc (.cells (qcell (qd X1) (qd Y1) (qd Z1)) 96)).alloc (.cells (qcell (qd X2) (qd Y2) (qd Z2)) 96)) (.cells (qcell (qd cd) f0 f0) 96)
   simpa using this
 have g3 : W0.heap[w.heap.size + 3]? = some (.cells (qcell f0 f0 f0) 96 (0, 0)) := by
   rw [hW0]
   have := heap_alloc_new (((w.alloc (.cells (qcell (qd X1) (qd Y1) (qd Z1)) 96)).alloc (.cells (qcell (qd X2) (qd Y2) (qd Z2)) 96)).alloc (.cells (qcell (qd cd) f0 f0) 96)) (.cells (qcell f0 f0 f0) 96)
   simpa using this
 have B0 := Box.mk (show Gr w W0 from by rw [hW0]; exact (((Gr.alloc _ _).trans (Gr.alloc _ _)).trans (Gr.alloc _ _)).trans (Gr.alloc _ _))
 obtain ⟨bp, hbp⟩ : ∃ b, b = w.heap.size + 0 := ⟨_, rfl⟩
 obtain ⟨bq, hbq⟩ : ∃ b, b = w.heap.size + 1 := ⟨_, rfl⟩
 obtain ⟨bd, hbd⟩ : ∃ b, b = w.heap.size + 2 := ⟨_, rfl⟩
 obtain ⟨br, hbr⟩ : ∃ b, b = w.heap.size + 3 := ⟨_, rfl⟩
 rw [← hbp] at g0
 rw [← hbq] at g1
 rw [← hbd] at g2
 rw [← hbr] at g3
 have nb_bp : w.heap.size ≤ bp := by omega
 have ne_bp_bq : bp ≠ bq := by omega
 have nb_bq : w.heap.size ≤ bq := by omega
 have ne_bp_bd : bp ≠ bd := by omega
 have ne_bq_bd : bq ≠ bd := by omega
 have nb_bd : w.heap.size ≤ bd := by omega
 have ne_bp_br : bp ≠ br := by omega
 have ne_bq_br : bq ≠ br := by omega
 have ne_bd_br : bd ≠ br := by omega
 have nb_br : w.heap.size ≤ br := by omega
 have GP := Box.mk g0; have GQ := Box.mk g1; have GD := Box.mk g2; have GR := Box.mk g3
 have HREP := Box.mk (hp.plus hq)
 clear g0 g1 g2 g3 hp hq
 have hz := zeroQ
 go_enter Tryz.func80, Tryz.ntmps80
 go_upto_region 1 with (fail)
 simp only [Nat.add_zero] at hbp
 rw [← hW0, ← hbr, ← hbd, ← hbq, ← hbp]
 clear hW0 hz hbr hbd hbq hbp
 refine wp_region_seq 6 [.flo, .flo, .flo, .flo, .cha, .new (.cells (ncell (f0)) 94)] (by rfl) rfl (by decide) ?_
 simp only [List.take, List.zip, List.zipWith]
 refine gm_fieldQ 2 32 (.tmp 3) rfl bp rfl (qfield2 bp) ?_
 try go_frame
 refine gm_loadG (.tmp 17) rfl bp 32 (qd Z1) (qcell (qd X1) (qd Y1) (qd Z1)) GP.out (subq_z _ _ _) rfl ?_
 try go_frame
 refine gm_fieldQ 2 32 (.tmp 4) rfl bq rfl (qfield2 bq) ?_
 try go_frame
 refine gm_loadG (.tmp 19) rfl bq 32 (qd Z2) (qcell (qd X2) (qd Y2) (qd Z2)) GQ.out (subq_z _ _ _) rfl ?_
 try go_frame
 refine gm_call [.agg (ncell (qd Z1)), .agg (ncell (qd Z2))] (by kernel_rfl) rfl rfl Stb.tt (fun w1 hw1 _ => (qtimes Z1 Z2 w1).mono ?_)
 rintro e w2 ⟨rfl, hw2⟩
 refine ⟨_, rfl, hw2, ?_⟩
 try go_frame
 obtain ⟨z, hz⟩ : ∃ x, x = Z1 * Z2 := ⟨_, rfl⟩
 rw [← hz]
 have Ez := Box.mk hz; clear hz
 refine gm_alloc rfl (.cells (ncell (f0)) 94) (fun _ => by kernel_rfl) (fun bz hbz hnbz => ?_)
 try go_frame
 refine gm_nil ?_
 intro u1 hw7 hF7
 simp only [List.drop]
 try go_frame
 have ne_bp_bz : bp ≠ bz := Nat.ne_of_lt (Nat.lt_of_lt_of_le (Gr.blt GP.out) hbz)
 have ne_bq_bz : bq ≠ bz := Nat.ne_of_lt (Nat.lt_of_lt_of_le (Gr.blt GQ.out) hbz)
 have ne_bd_bz : bd ≠ bz := Nat.ne_of_lt (Nat.lt_of_lt_of_le (Gr.blt GD.out) hbz)
 have ne_br_bz : br ≠ bz := Nat.ne_of_lt (Nat.lt_of_lt_of_le (Gr.blt GR.out) hbz)
 have nb_bz : w.heap.size ≤ bz := Nat.le_trans B0.out.size hbz
 have GP' := hw7.block GP.out
 have GQ' := hw7.block GQ.out
 have GD' := hw7.block GD.out
 have GR' := hw7.block GR.out
 have GZ' : u1.heap[bz]? = some (.cells (ncell (f0)) 94 (0, 0)) := hF7.2
 have gb : Gr w u1 := B0.out.trans hw7
 have HN0 := Box.mk GZ'
 have GP'' := show ((u1.setRow bz (ncell (qd z)))).heap[bp]? = _ from (setRow_other _ _ _ _ (by first | exact ne_bp_bz | exact Ne.symm ne_bz_bp)).trans GP'
 have GQ'' := show ((u1.setRow bz (ncell (qd z)))).heap[bq]? = _ from (setRow_other _ _ _ _ (by first | exact ne_bq_bz | exact Ne.symm ne_bz_bq)).trans GQ'
 have GD'' := show ((u1.setRow bz (ncell (qd z)))).heap[bd]? = _ from (setRow_other _ _ _ _ (by first | exact ne_bd_bz | exact Ne.symm ne_bz_bd)).trans GD'
 have GR'' := show ((u1.setRow bz (ncell (qd z)))).heap[br]? = _ from (setRow_other _ _ _ _ (by first | exact ne_br_bz | exact Ne.symm ne_bz_br)).trans GR'
 have GZ'' := show ((u1.setRow bz (ncell (qd z)))).heap[bz]? = some (.cells (ncell (qd z)) 94 (0, 0)) from setRow_heap _ _ _ _ _ _ GZ'
 replace gb := gb.setRow (nb_bz) (ncell (qd z))
 obtain ⟨V1, hWn⟩ : ∃ W, W = (u1.setRow bz (ncell (qd z))) := ⟨_, rfl⟩
 replace GP := Box.mk (show V1.heap[bp]? = some (.cells (qcell (qd X1) (qd Y1) (qd Z1)) 96 (0, 0)) from hWn ▸ GP'')
 replace GQ := Box.mk (show V1.heap[bq]? = some (.cells (qcell (qd X2) (qd Y2) (qd Z2)) 96 (0, 0)) from hWn ▸ GQ'')
 replace GD := Box.mk (show V1.heap[bd]? = some (.cells (qcell (qd cd) f0 f0) 96 (0, 0)) from hWn ▸ GD'')
 replace GR := Box.mk (show V1.heap[br]? = some (.cells (qcell f0 f0 f0) 96 (0, 0)) from hWn ▸ GR'')
 have GZ := Box.mk (show V1.heap[bz]? = some (.cells (ncell (qd z)) 94 (0, 0)) from hWn ▸ GZ'')
 replace B0 := Box.mk (show Gr w V1 from hWn ▸ gb)
 clear gb hF7 hw7 GP' GP'' GQ' GQ'' GD' GD'' GR' GR'' GZ' GZ'' hbz hnbz
 go_upto_region 2 with (((with_reducible refine wpList_storeN rfl (.tmp 7) (.tmp 21) rfl bz (qd z) (f0) HN0.out ?_ ?_ ?_); rfl; rfl))
 try go_frame
 rw [← hWn]
 clear hWn HN0
 refine wp_region_seq 4 [.flo, .flo, .cha, .new (.cells (ncell (f0)) 94)] (by rfl) rfl (by decide) ?_
 simp only [List.take, List.zip, List.zipWith]
 refine gm_loadN (.tmp 7) rfl bz (qd z) GZ.out rfl ?_
 try go_frame
 refine gm_loadN (.tmp 7) rfl bz (qd z) GZ.out rfl ?_
 try go_frame
 refine gm_call [.agg (ncell (qd z)), .agg (ncell (qd z))] (by kernel_rfl) rfl rfl Stb.tt (fun w1 hw1 _ => (qtimes z z w1).mono ?_)
 rintro e w2 ⟨rfl, hw2⟩
 refine ⟨_, rfl, hw2, ?_⟩
 try go_frame
 obtain ⟨zz, hzz⟩ : ∃ x, x = z * z := ⟨_, rfl⟩
 rw [← hzz]
 have Ezz := Box.mk hzz; clear hzz
 refine gm_alloc rfl (.cells (ncell (f0)) 94) (fun _ => by kernel_rfl) (fun bzz hbzz hnbzz => ?_)
 try go_frame
 refine gm_nil ?_
 intro u2 hw7 hF7
 simp only [List.drop]
 try go_frame
 have ne_bp_bzz : bp ≠ bzz := Nat.ne_of_lt (Nat.lt_of_lt_of_le (Gr.blt GP.out) hbzz)
 have ne_bq_bzz : bq ≠ bzz := Nat.ne_of_lt (Nat.lt_of_lt_of_le (Gr.blt GQ.out) hbzz)
 have ne_bd_bzz : bd ≠ bzz := Nat.ne_of_lt (Nat.lt_of_lt_of_le (Gr.blt GD.out) hbzz)
 have ne_br_bzz : br ≠ bzz := Nat.ne_of_lt (Nat.lt_of_lt_of_le (Gr.blt GR.out) hbzz)
 have ne_bz_bzz : bz ≠ bzz := Nat.ne_of_lt (Nat.lt_of_lt_of_le (Gr.blt GZ.out) hbzz)
 have nb_bzz : w.heap.size ≤ bzz := Nat.le_trans B0.out.size hbzz
 have GP' := hw7.block GP.out
 have GQ' := hw7.block GQ.out
 have GD' := hw7.block GD.out
 have GR' := hw7.block GR.out
 have GZ' := hw7.block GZ.out
 have GZZ' : u2.heap[bzz]? = some (.cells (ncell (f0)) 94 (0, 0)) := hF7.2
 have gb : Gr w u2 := B0.out.trans hw7
 have HN0 := Box.mk GZZ'
 have GP'' := show ((u2.setRow bzz (ncell (qd zz)))).heap[bp]? = _ from (setRow_other _ _ _ _ (by first | exact ne_bp_bzz | exact Ne.symm ne_bzz_bp)).trans GP'
 have GQ'' := show ((u2.setRow bzz (ncell (qd zz)))).heap[bq]? = _ from (setRow_other _ _ _ _ (by first | exact ne_bq_bzz | exact Ne.symm ne_bzz_bq)).trans GQ'
 have GD'' := show ((u2.setRow bzz (ncell (qd zz)))).heap[bd]? = _ from (setRow_other _ _ _ _ (by first | exact ne_bd_bzz | exact Ne.symm ne_bzz_bd)).trans GD'
 have GR'' := show ((u2.setRow bzz (ncell (qd zz)))).heap[br]? = _ from (setRow_other _ _ _ _ (by first | exact ne_br_bzz | exact Ne.symm ne_bzz_br)).trans GR'
 have GZ'' := show ((u2.setRow bzz (ncell (qd zz)))).heap[bz]? = _ from (setRow_other _ _ _ _ (by first | exact ne_bz_bzz | exact Ne.symm ne_bzz_bz)).trans GZ'
 have GZZ'' := show ((u2.setRow bzz (ncell (qd zz)))).heap[bzz]? = some (.cells (ncell (qd zz)) 94 (0, 0)) from setRow_heap _ _ _ _ _ _ GZZ'
 replace gb := gb.setRow (nb_bzz) (ncell (qd zz))
 obtain ⟨V2, hWn⟩ : ∃ W, W = (u2.setRow bzz (ncell (qd zz))) := ⟨_, rfl⟩
 replace GP := Box.mk (show V2.heap[bp]? = some (.cells (qcell (qd X1) (qd Y1) (qd Z1)) 96 (0, 0)) from hWn ▸ GP'')
 replace GQ := Box.mk (show V2.heap[bq]? = some (.cells (qcell (qd X2) (qd Y2) (qd Z2)) 96 (0, 0)) from hWn ▸ GQ'')
 replace GD := Box.mk (show V2.heap[bd]? = some (.cells (qcell (qd cd) f0 f0) 96 (0, 0)) from hWn ▸ GD'')
 replace GR := Box.mk (show V2.heap[br]? = some (.cells (qcell f0 f0 f0) 96 (0, 0)) from hWn ▸ GR'')
 replace GZ := Box.mk (show V2.heap[bz]? = some (.cells (ncell (qd z)) 94 (0, 0)) from hWn ▸ GZ'')
 have GZZ := Box.mk (show V2.heap[bzz]? = some (.cells (ncell (qd zz)) 94 (0, 0)) from hWn ▸ GZZ'')
 replace B0 := Box.mk (show Gr w V2 from hWn ▸ gb)
 clear gb hF7 hw7 GP' GP'' GQ' GQ'' GD' GD'' GR' GR'' GZ' GZ'' GZZ' GZZ'' hbzz hnbzz
 go_upto_region 3 with (((with_reducible refine wpList_storeN rfl (.tmp 8) (.tmp 24) rfl bzz (qd zz) (f0) HN0.out ?_ ?_ ?_); rfl; rfl))
 try go_frame
 rw [← hWn]
 clear hWn HN0
 refine wp_region_mix 12 [.flo, .flo, .flo, .flo, .cha, .flo, .flo, .flo, .flo, .cha, .new (.cells (ncell (f0)) 94), .new (.cells (ncell (f0)) 94)] (by kernel_rfl) (by kernel_rfl) rfl ?_
 simp only [List.take, List.zip, List.zipWith]
 refine gm_fieldQ 0 0 (.tmp 3) rfl bp rfl (qfield0 bp) ?_
 try go_frame
 refine gm_loadG (.tmp 25) rfl bp 0 (qd X1) (qcell (qd X1) (qd Y1) (qd Z1)) GP.out (subq_x _ _ _) rfl ?_
 try go_frame
 refine gm_fieldQ 0 0 (.tmp 4) rfl bq rfl (qfield0 bq) ?_
 try go_frame
 refine gm_loadG (.tmp 27) rfl bq 0 (qd X2) (qcell (qd X2) (qd Y2) (qd Z2)) GQ.out (subq_x _ _ _) rfl ?_
 try go_frame
 refine gm_call [.agg (ncell (qd X1)), .agg (ncell (qd X2))] (by kernel_rfl) rfl rfl Stb.tt (fun w1 hw1 _ => (qtimes X1 X2 w1).mono ?_)
 rintro e w2 ⟨rfl, hw2⟩
 refine ⟨_, rfl, hw2, ?_⟩
 try go_frame
 obtain ⟨xx, hxx⟩ : ∃ x, x = X1 * X2 := ⟨_, rfl⟩
 rw [← hxx]
 have Exx := Box.mk hxx; clear hxx
 refine gm_fieldQ 1 16 (.tmp 3) rfl bp rfl (qfield1 bp) ?_
 try go_frame
 refine gm_loadG (.tmp 30) rfl bp 16 (qd Y1) (qcell (qd X1) (qd Y1) (qd Z1)) GP.out (subq_y _ _ _) rfl ?_
 try go_frame
 refine gm_fieldQ 1 16 (.tmp 4) rfl bq rfl (qfield1 bq) ?_
 try go_frame
 refine gm_loadG (.tmp 32) rfl bq 16 (qd Y2) (qcell (qd X2) (qd Y2) (qd Z2)) GQ.out (subq_y _ _ _) rfl ?_
 try go_frame
 refine gm_call [.agg (ncell (qd Y1)), .agg (ncell (qd Y2))] (by kernel_rfl) rfl rfl Stb.tt (fun w1 hw1 _ => (qtimes Y1 Y2 w1).mono ?_)
 rintro e w2 ⟨rfl, hw2⟩
 refine ⟨_, rfl, hw2, ?_⟩
 try go_frame
 obtain ⟨yy, hyy⟩ : ∃ x, x = Y1 * Y2 := ⟨_, rfl⟩
 rw [← hyy]
 have Eyy := Box.mk hyy; clear hyy
 refine gm_alloc rfl (.cells (ncell (f0)) 94) (fun _ => by kernel_rfl) (fun bxx hbxx hnbxx => ?_)
 try go_frame
 refine gm_alloc rfl (.cells (ncell (f0)) 94) (fun _ => by kernel_rfl) (fun byy hbyy hnbyy => ?_)
 try go_frame
 refine gm_nil ?_
 intro u3 hw7 hF7
 simp only [List.drop]
 try go_frame
 have ne_bp_bxx : bp ≠ bxx := Nat.ne_of_lt (Nat.lt_of_lt_of_le (Gr.blt GP.out) hbxx)
 have ne_bq_bxx : bq ≠ bxx := Nat.ne_of_lt (Nat.lt_of_lt_of_le (Gr.blt GQ.out) hbxx)
 have ne_bd_bxx : bd ≠ bxx := Nat.ne_of_lt (Nat.lt_of_lt_of_le (Gr.blt GD.out) hbxx)
 have ne_br_bxx : br ≠ bxx := Nat.ne_of_lt (Nat.lt_of_lt_of_le (Gr.blt GR.out) hbxx)
 have ne_bz_bxx : bz ≠ bxx := Nat.ne_of_lt (Nat.lt_of_lt_of_le (Gr.blt GZ.out) hbxx)
 have ne_bzz_bxx : bzz ≠ bxx := Nat.ne_of_lt (Nat.lt_of_lt_of_le (Gr.blt GZZ.out) hbxx)
 have nb_bxx : w.heap.size ≤ bxx := Nat.le_trans B0.out.size hbxx
 have ne_bp_byy : bp ≠ byy := Nat.ne_of_lt (Nat.lt_of_lt_of_le (Gr.blt GP.out) hbyy)
 have ne_bq_byy : bq ≠ byy := Nat.ne_of_lt (Nat.lt_of_lt_of_le (Gr.blt GQ.out) hbyy)
 have ne_bd_byy : bd ≠ byy := Nat.ne_of_lt (Nat.lt_of_lt_of_le (Gr.blt GD.out) hbyy)
 have ne_br_byy : br ≠ byy := Nat.ne_of_lt (Nat.lt_of_lt_of_le (Gr.blt GR.out) hbyy)
 have ne_bz_byy : bz ≠ byy := Nat.ne_of_lt (Nat.lt_of_lt_of_le (Gr.blt GZ.out) hbyy)
 have ne_bzz_byy : bzz ≠ byy := Nat.ne_of_lt (Nat.lt_of_lt_of_le (Gr.blt GZZ.out) hbyy)
 have nb_byy : w.heap.size ≤ byy := Nat.le_trans B0.out.size hbyy
 have ne_bxx_byy : bxx ≠ byy := fun h => hnbyy (by simp [h])
 have GP' := hw7.block GP.out
 have GQ' := hw7.block GQ.out
 have GD' := hw7.block GD.out
 have GR' := hw7.block GR.out
 have GZ' := hw7.block GZ.out
 have GZZ' := hw7.block GZZ.out
 have GXX' : u3.heap[bxx]? = some (.cells (ncell (f0)) 94 (0, 0)) := hF7.1.2
 have GYY' : u3.heap[byy]? = some (.cells (ncell (f0)) 94 (0, 0)) := hF7.2
 have gb : Gr w u3 := B0.out.trans (Gr.trans (show Gr V2 V2.drew from (Below.refl _ _).drew) hw7)
 have HN0 := Box.mk GXX'
 have GP'' := show ((u3.setRow bxx (ncell (qd xx)))).heap[bp]? = _ from (setRow_other _ _ _ _ (by first | exact ne_bp_bxx | exact Ne.symm ne_bxx_bp)).trans GP'
 have GQ'' := show ((u3.setRow bxx (ncell (qd xx)))).heap[bq]? = _ from (setRow_other _ _ _ _ (by first | exact ne_bq_bxx | exact Ne.symm ne_bxx_bq)).trans GQ'
 have GD'' := show ((u3.setRow bxx (ncell (qd xx)))).heap[bd]? = _ from (setRow_other _ _ _ _ (by first | exact ne_bd_bxx | exact Ne.symm ne_bxx_bd)).trans GD'
 have GR'' := show ((u3.setRow bxx (ncell (qd xx)))).heap[br]? = _ from (setRow_other _ _ _ _ (by first | exact ne_br_bxx | exact Ne.symm ne_bxx_br)).trans GR'
 have GZ'' := show ((u3.setRow bxx (ncell (qd xx)))).heap[bz]? = _ from (setRow_other _ _ _ _ (by first | exact ne_bz_bxx | exact Ne.symm ne_bxx_bz)).trans GZ'
 have GZZ'' := show ((u3.setRow bxx (ncell (qd xx)))).heap[bzz]? = _ from (setRow_other _ _ _ _ (by first | exact ne_bzz_bxx | exact Ne.symm ne_bxx_bzz)).trans GZZ'
 have GXX'' := show ((u3.setRow bxx (ncell (qd xx)))).heap[bxx]? = some (.cells (ncell (qd xx)) 94 (0, 0)) from setRow_heap _ _ _ _ _ _ GXX'
 have GYY'' := show ((u3.setRow bxx (ncell (qd xx)))).heap[byy]? = _ from (setRow_other _ _ _ _ (by first | exact ne_byy_bxx | exact Ne.symm ne_bxx_byy)).trans GYY'
 replace gb := gb.setRow (nb_bxx) (ncell (qd xx))
 have HN1 := Box.mk GYY''
 have GP''' := show (((u3.setRow bxx (ncell (qd xx))).setRow byy (ncell (qd yy)))).heap[bp]? = _ from (setRow_other _ _ _ _ (by first | exact ne_bp_byy | exact Ne.symm ne_byy_bp)).trans GP''
 have GQ''' := show (((u3.setRow bxx (ncell (qd xx))).setRow byy (ncell (qd yy)))).heap[bq]? = _ from (setRow_other _ _ _ _ (by first | exact ne_bq_byy | exact Ne.symm ne_byy_bq)).trans GQ''
 have GD''' := show (((u3.setRow bxx (ncell (qd xx))).setRow byy (ncell (qd yy)))).heap[bd]? = _ from (setRow_other _ _ _ _ (by first | exact ne_bd_byy | exact Ne.symm ne_byy_bd)).trans GD''
 have GR''' := show (((u3.setRow bxx (ncell (qd xx))).setRow byy (ncell (qd yy)))).heap[br]? = _ from (setRow_other _ _ _ _ (by first | exact ne_br_byy | exact Ne.symm ne_byy_br)).trans GR''
 have GZ''' := show (((u3.setRow bxx (ncell (qd xx))).setRow byy (ncell (qd yy)))).heap[bz]? = _ from (setRow_other _ _ _ _ (by first | exact ne_bz_byy | exact Ne.symm ne_byy_bz)).trans GZ''
 have GZZ''' := show (((u3.setRow bxx (ncell (qd xx))).setRow byy (ncell (qd yy)))).heap[bzz]? = _ from (setRow_other _ _ _ _ (by first | exact ne_bzz_byy | exact Ne.symm ne_byy_bzz)).trans GZZ''
 have GXX''' := show (((u3.setRow bxx (ncell (qd xx))).setRow byy (ncell (qd yy)))).heap[bxx]? = _ from (setRow_other _ _ _ _ (by first | exact ne_bxx_byy | exact Ne.symm ne_byy_bxx)).trans GXX''
 have GYY''' := show (((u3.setRow bxx (ncell (qd xx))).setRow byy (ncell (qd yy)))).heap[byy]? = some (.cells (ncell (qd yy)) 94 (0, 0)) from setRow_heap _ _ _ _ _ _ GYY''
 replace gb := gb.setRow (nb_byy) (ncell (qd yy))
 obtain ⟨V3, hWn⟩ : ∃ W, W = ((u3.setRow bxx (ncell (qd xx))).setRow byy (ncell (qd yy))) := ⟨_, rfl⟩
 replace GP := Box.mk (show V3.heap[bp]? = some (.cells (qcell (qd X1) (qd Y1) (qd Z1)) 96 (0, 0)) from hWn ▸ GP''')
 replace GQ := Box.mk (show V3.heap[bq]? = some (.cells (qcell (qd X2) (qd Y2) (qd Z2)) 96 (0, 0)) from hWn ▸ GQ''')
 replace GD := Box.mk (show V3.heap[bd]? = some (.cells (qcell (qd cd) f0 f0) 96 (0, 0)) from hWn ▸ GD''')
 replace GR := Box.mk (show V3.heap[br]? = some (.cells (qcell f0 f0 f0) 96 (0, 0)) from hWn ▸ GR''')
 replace GZ := Box.mk (show V3.heap[bz]? = some (.cells (ncell (qd z)) 94 (0, 0)) from hWn ▸ GZ''')
 replace GZZ := Box.mk (show V3.heap[bzz]? = some (.cells (ncell (qd zz)) 94 (0, 0)) from hWn ▸ GZZ''')
 have GXX := Box.mk (show V3.heap[bxx]? = some (.cells (ncell (qd xx)) 94 (0, 0)) from hWn ▸ GXX''')
 have GYY := Box.mk (show V3.heap[byy]? = some (.cells (ncell (qd yy)) 94 (0, 0)) from hWn ▸ GYY''')
 replace B0 := Box.mk (show Gr w V3 from hWn ▸ gb)
 clear gb hF7 hw7 GP' GP'' GP''' GQ' GQ'' GQ''' GD' GD'' GD''' GR' GR'' GR''' GZ' GZ'' GZ''' GZZ' GZZ'' GZZ''' GXX' GXX'' GXX''' GYY' GYY'' GYY''' hbxx hbyy hnbxx hnbyy
 go_upto_region 4 with ((first
     | ((with_reducible refine wpList_storeN rfl (.tmp 9) (.tmp 29) rfl bxx (qd xx) (f0) HN0.out ?_ ?_ ?_); rfl; rfl)
     | ((with_reducible refine wpList_storeN rfl (.tmp 10) (.tmp 34) rfl byy (qd yy) (f0) HN1.out ?_ ?_ ?_); rfl; rfl)))
 try go_frame
 rw [← hWn]
 clear hWn HN0 HN1
 refine wp_region_mix 7 [.flo, .flo, .flo, .flo, .cha, .cha, .new (.cells (ncell (f0)) 94)] (by kernel_rfl) (by kernel_rfl) rfl ?_
 simp only [List.take, List.zip, List.zipWith]
 refine gm_fieldQ 0 0 (.tmp 5) rfl bd rfl (qfield0 bd) ?_
 try go_frame
 refine gm_loadG (.tmp 35) rfl bd 0 (qd cd) (qcell (qd cd) f0 f0) GD.out (subq_x _ _ _) rfl ?_
 try go_frame
 refine gm_loadN (.tmp 9) rfl bxx (qd xx) GXX.out rfl ?_
 try go_frame
 refine gm_loadN (.tmp 10) rfl byy (qd yy) GYY.out rfl ?_
 try go_frame
 refine gm_call [.agg (ncell (qd xx)), .agg (ncell (qd yy))] (by kernel_rfl) rfl rfl Stb.tt (fun w1 hw1 _ => (qtimes xx yy w1).mono ?_)
 rintro e w2 ⟨rfl, hw2⟩
 refine ⟨_, rfl, hw2, ?_⟩
 try go_frame
 obtain ⟨xy, hxy⟩ : ∃ x, x = xx * yy := ⟨_, rfl⟩
 rw [← hxy]
 have Exy := Box.mk hxy; clear hxy
 refine gm_call [.agg (ncell (qd cd)), .agg (ncell (qd xy))] (by kernel_rfl) rfl rfl Stb.tt (fun w1 hw1 _ => (qtimes cd xy w1).mono ?_)
 rintro e w2 ⟨rfl, hw2⟩
 refine ⟨_, rfl, hw2, ?_⟩
 try go_frame
 obtain ⟨all, hall⟩ : ∃ x, x = cd * xy := ⟨_, rfl⟩
 rw [← hall]
 have Eall := Box.mk hall; clear hall
 refine gm_alloc rfl (.cells (ncell (f0)) 94) (fun _ => by kernel_rfl) (fun bal hbal hnbal => ?_)
 try go_frame
 refine gm_nil ?_
 intro u4 hw7 hF7
 simp only [List.drop]
 try go_frame
 have ne_bp_bal : bp ≠ bal := Nat.ne_of_lt (Nat.lt_of_lt_of_le (Gr.blt GP.out) hbal)
 have ne_bq_bal : bq ≠ bal := Nat.ne_of_lt (Nat.lt_of_lt_of_le (Gr.blt GQ.out) hbal)
 have ne_bd_bal : bd ≠ bal := Nat.ne_of_lt (Nat.lt_of_lt_of_le (Gr.blt GD.out) hbal)
 have ne_br_bal : br ≠ bal := Nat.ne_of_lt (Nat.lt_of_lt_of_le (Gr.blt GR.out) hbal)
 have ne_bz_bal : bz ≠ bal := Nat.ne_of_lt (Nat.lt_of_lt_of_le (Gr.blt GZ.out) hbal)
 have ne_bzz_bal : bzz ≠ bal := Nat.ne_of_lt (Nat.lt_of_lt_of_le (Gr.blt GZZ.out) hbal)
 have ne_bxx_bal : bxx ≠ bal := Nat.ne_of_lt (Nat.lt_of_lt_of_le (Gr.blt GXX.out) hbal)
 have ne_byy_bal : byy ≠ bal := Nat.ne_of_lt (Nat.lt_of_lt_of_le (Gr.blt GYY.out) hbal)
 have nb_bal : w.heap.size ≤ bal := Nat.le_trans B0.out.size hbal
 have GP' := hw7.block GP.out
 have GQ' := hw7.block GQ.out
 have GD' := hw7.block GD.out
 have GR' := hw7.block GR.out
 have GZ' := hw7.block GZ.out
 have GZZ' := hw7.block GZZ.out
 have GXX' := hw7.block GXX.out
 have GYY' := hw7.block GYY.out
 have GAL' : u4.heap[bal]? = some (.cells (ncell (f0)) 94 (0, 0)) := hF7.2
 have gb : Gr w u4 := B0.out.trans (Gr.trans (show Gr V3 V3.drew from (Below.refl _ _).drew) hw7)
 have HN0 := Box.mk GAL'
 have GP'' := show ((u4.setRow bal (ncell (qd all)))).heap[bp]? = _ from (setRow_other _ _ _ _ (by first | exact ne_bp_bal | exact Ne.symm ne_bal_bp)).trans GP'
 have GQ'' := show ((u4.setRow bal (ncell (qd all)))).heap[bq]? = _ from (setRow_other _ _ _ _ (by first | exact ne_bq_bal | exact Ne.symm ne_bal_bq)).trans GQ'
 have GD'' := show ((u4.setRow bal (ncell (qd all)))).heap[bd]? = _ from (setRow_other _ _ _ _ (by first | exact ne_bd_bal | exact Ne.symm ne_bal_bd)).trans GD'
 have GR'' := show ((u4.setRow bal (ncell (qd all)))).heap[br]? = _ from (setRow_other _ _ _ _ (by first | exact ne_br_bal | exact Ne.symm ne_bal_br)).trans GR'
 have GZ'' := show ((u4.setRow bal (ncell (qd all)))).heap[bz]? = _ from (setRow_other _ _ _ _ (by first | exact ne_bz_bal | exact Ne.symm ne_bal_bz)).trans GZ'
 have GZZ'' := show ((u4.setRow bal (ncell (qd all)))).heap[bzz]? = _ from (setRow_other _ _ _ _ (by first | exact ne_bzz_bal | exact Ne.symm ne_bal_bzz)).trans GZZ'
 have GXX'' := show ((u4.setRow bal (ncell (qd all)))).heap[bxx]? = _ from (setRow_other _ _ _ _ (by first | exact ne_bxx_bal | exact Ne.symm ne_bal_bxx)).trans GXX'
 have GYY'' := show ((u4.setRow bal (ncell (qd all)))).heap[byy]? = _ from (setRow_other _ _ _ _ (by first | exact ne_byy_bal | exact Ne.symm ne_bal_byy)).trans GYY'
 have GAL'' := show ((u4.setRow bal (ncell (qd all)))).heap[bal]? = some (.cells (ncell (qd all)) 94 (0, 0)) from setRow_heap _ _ _ _ _ _ GAL'
 replace gb := gb.setRow (nb_bal) (ncell (qd all))
 obtain ⟨V4, hWn⟩ : ∃ W, W = (u4.setRow bal (ncell (qd all))) := ⟨_, rfl⟩
 replace GP := Box.mk (show V4.heap[bp]? = some (.cells (qcell (qd X1) (qd Y1) (qd Z1)) 96 (0, 0)) from hWn ▸ GP'')
 replace GQ := Box.mk (show V4.heap[bq]? = some (.cells (qcell (qd X2) (qd Y2) (qd Z2)) 96 (0, 0)) from hWn ▸ GQ'')
 replace GD := Box.mk (show V4.heap[bd]? = some (.cells (qcell (qd cd) f0 f0) 96 (0, 0)) from hWn ▸ GD'')
 replace GR := Box.mk (show V4.heap[br]? = some (.cells (qcell f0 f0 f0) 96 (0, 0)) from hWn ▸ GR'')
 replace GZ := Box.mk (show V4.heap[bz]? = some (.cells (ncell (qd z)) 94 (0, 0)) from hWn ▸ GZ'')
 replace GZZ := Box.mk (show V4.heap[bzz]? = some (.cells (ncell (qd zz)) 94 (0, 0)) from hWn ▸ GZZ'')
 replace GXX := Box.mk (show V4.heap[bxx]? = some (.cells (ncell (qd xx)) 94 (0, 0)) from hWn ▸ GXX'')
 replace GYY := Box.mk (show V4.heap[byy]? = some (.cells (ncell (qd yy)) 94 (0, 0)) from hWn ▸ GYY'')
 have GAL := Box.mk (show V4.heap[bal]? = some (.cells (ncell (qd all)) 94 (0, 0)) from hWn ▸ GAL'')
 replace B0 := Box.mk (show Gr w V4 from hWn ▸ gb)
 clear gb hF7 hw7 GP' GP'' GQ' GQ'' GD' GD'' GR' GR'' GZ' GZ'' GZZ' GZZ'' GXX' GXX'' GYY' GYY'' GAL' GAL'' hbal hnbal
 go_upto_region 5 with (((with_reducible refine wpList_storeN rfl (.tmp 11) (.tmp 40) rfl bal (qd all) (f0) HN0.out ?_ ?_ ?_); rfl; rfl))
 try go_frame
 rw [← hWn]
 clear hWn HN0
 refine wp_region_mix 8 [.flo, .flo, .cha, .flo, .flo, .cha, .new (.cells (ncell (f0)) 94), .new (.cells (ncell (f0)) 94)] (by kernel_rfl) (by kernel_rfl) rfl ?_
 simp only [List.take, List.zip, List.zipWith]
 refine gm_loadN (.tmp 8) rfl bzz (qd zz) GZZ.out rfl ?_
 try go_frame
 refine gm_loadN (.tmp 11) rfl bal (qd all) GAL.out rfl ?_
 try go_frame
 refine gm_call [.agg (ncell (qd zz)), .agg (ncell (qd all))] (by kernel_rfl) rfl rfl Stb.tt (fun w1 hw1 _ => (qminus zz all w1).mono ?_)
 rintro e w2 ⟨rfl, hw2⟩
 refine ⟨_, rfl, hw2, ?_⟩
 try go_frame
 obtain ⟨less, hless⟩ : ∃ x, x = zz - all := ⟨_, rfl⟩
 rw [← hless]
 have Eless := Box.mk hless; clear hless
 refine gm_loadN (.tmp 8) rfl bzz (qd zz) GZZ.out rfl ?_
 try go_frame
 refine gm_loadN (.tmp 11) rfl bal (qd all) GAL.out rfl ?_
 try go_frame
 refine gm_call [.agg (ncell (qd zz)), .agg (ncell (qd all))] (by kernel_rfl) rfl rfl Stb.tt (fun w1 hw1 _ => (qplus zz all w1).mono ?_)
 rintro e w2 ⟨rfl, hw2⟩
 refine ⟨_, rfl, hw2, ?_⟩
 try go_frame
 obtain ⟨more, hmore⟩ : ∃ x, x = zz + all := ⟨_, rfl⟩
 rw [← hmore]
 have Emore := Box.mk hmore; clear hmore
 refine gm_alloc rfl (.cells (ncell (f0)) 94) (fun _ => by kernel_rfl) (fun ble hble hnble => ?_)
 try go_frame
 refine gm_alloc rfl (.cells (ncell (f0)) 94) (fun _ => by kernel_rfl) (fun bmo hbmo hnbmo => ?_)
 try go_frame
 refine gm_nil ?_
 intro u5 hw7 hF7
 simp only [List.drop]
 try go_frame
 have ne_bp_ble : bp ≠ ble := Nat.ne_of_lt (Nat.lt_of_lt_of_le (Gr.blt GP.out) hble)
 have ne_bq_ble : bq ≠ ble := Nat.ne_of_lt (Nat.lt_of_lt_of_le (Gr.blt GQ.out) hble)
 have ne_bd_ble : bd ≠ ble := Nat.ne_of_lt (Nat.lt_of_lt_of_le (Gr.blt GD.out) hble)
 have ne_br_ble : br ≠ ble := Nat.ne_of_lt (Nat.lt_of_lt_of_le (Gr.blt GR.out) hble)
 have ne_bz_ble : bz ≠ ble := Nat.ne_of_lt (Nat.lt_of_lt_of_le (Gr.blt GZ.out) hble)
 have ne_bzz_ble : bzz ≠ ble := Nat.ne_of_lt (Nat.lt_of_lt_of_le (Gr.blt GZZ.out) hble)
 have ne_bxx_ble : bxx ≠ ble := Nat.ne_of_lt (Nat.lt_of_lt_of_le (Gr.blt GXX.out) hble)
 have ne_byy_ble : byy ≠ ble := Nat.ne_of_lt (Nat.lt_of_lt_of_le (Gr.blt GYY.out) hble)
 have ne_bal_ble : bal ≠ ble := Nat.ne_of_lt (Nat.lt_of_lt_of_le (Gr.blt GAL.out) hble)
 have nb_ble : w.heap.size ≤ ble := Nat.le_trans B0.out.size hble
 have ne_bp_bmo : bp ≠ bmo := Nat.ne_of_lt (Nat.lt_of_lt_of_le (Gr.blt GP.out) hbmo)
 have ne_bq_bmo : bq ≠ bmo := Nat.ne_of_lt (Nat.lt_of_lt_of_le (Gr.blt GQ.out) hbmo)
 have ne_bd_bmo : bd ≠ bmo := Nat.ne_of_lt (Nat.lt_of_lt_of_le (Gr.blt GD.out) hbmo)
 have ne_br_bmo : br ≠ bmo := Nat.ne_of_lt (Nat.lt_of_lt_of_le (Gr.blt GR.out) hbmo)
 have ne_bz_bmo : bz ≠ bmo := Nat.ne_of_lt (Nat.lt_of_lt_of_le (Gr.blt GZ.out) hbmo)
 have ne_bzz_bmo : bzz ≠ bmo := Nat.ne_of_lt (Nat.lt_of_lt_of_le (Gr.blt GZZ.out) hbmo)
 have ne_bxx_bmo : bxx ≠ bmo := Nat.ne_of_lt (Nat.lt_of_lt_of_le (Gr.blt GXX.out) hbmo)
 have ne_byy_bmo : byy ≠ bmo := Nat.ne_of_lt (Nat.lt_of_lt_of_le (Gr.blt GYY.out) hbmo)
 have ne_bal_bmo : bal ≠ bmo := Nat.ne_of_lt (Nat.lt_of_lt_of_le (Gr.blt GAL.out) hbmo)
 have nb_bmo : w.heap.size ≤ bmo := Nat.le_trans B0.out.size hbmo
 have ne_ble_bmo : ble ≠ bmo := fun h => hnbmo (by simp [h])
 have GP' := hw7.block GP.out
 have GQ' := hw7.block GQ.out
 have GD' := hw7.block GD.out
 have GR' := hw7.block GR.out
 have GZ' := hw7.block GZ.out
 have GZZ' := hw7.block GZZ.out
 have GXX' := hw7.block GXX.out
 have GYY' := hw7.block GYY.out
 have GAL' := hw7.block GAL.out
 have GLE' : u5.heap[ble]? = some (.cells (ncell (f0)) 94 (0, 0)) := hF7.1.2
 have GMO' : u5.heap[bmo]? = some (.cells (ncell (f0)) 94 (0, 0)) := hF7.2
 have gb : Gr w u5 := B0.out.trans (Gr.trans (show Gr V4 V4.drew from (Below.refl _ _).drew) hw7)
 have HN0 := Box.mk GLE'
 have GP'' := show ((u5.setRow ble (ncell (qd less)))).heap[bp]? = _ from (setRow_other _ _ _ _ (by first | exact ne_bp_ble | exact Ne.symm ne_ble_bp)).trans GP'
 have GQ'' := show ((u5.setRow ble (ncell (qd less)))).heap[bq]? = _ from (setRow_other _ _ _ _ (by first | exact ne_bq_ble | exact Ne.symm ne_ble_bq)).trans GQ'
 have GD'' := show ((u5.setRow ble (ncell (qd less)))).heap[bd]? = _ from (setRow_other _ _ _ _ (by first | exact ne_bd_ble | exact Ne.symm ne_ble_bd)).trans GD'
 have GR'' := show ((u5.setRow ble (ncell (qd less)))).heap[br]? = _ from (setRow_other _ _ _ _ (by first | exact ne_br_ble | exact Ne.symm ne_ble_br)).trans GR'
 have GZ'' := show ((u5.setRow ble (ncell (qd less)))).heap[bz]? = _ from (setRow_other _ _ _ _ (by first | exact ne_bz_ble | exact Ne.symm ne_ble_bz)).trans GZ'
 have GZZ'' := show ((u5.setRow ble (ncell (qd less)))).heap[bzz]? = _ from (setRow_other _ _ _ _ (by first | exact ne_bzz_ble | exact Ne.symm ne_ble_bzz)).trans GZZ'
 have GXX'' := show ((u5.setRow ble (ncell (qd less)))).heap[bxx]? = _ from (setRow_other _ _ _ _ (by first | exact ne_bxx_ble | exact Ne.symm ne_ble_bxx)).trans GXX'
 have GYY'' := show ((u5.setRow ble (ncell (qd less)))).heap[byy]? = _ from (setRow_other _ _ _ _ (by first | exact ne_byy_ble | exact Ne.symm ne_ble_byy)).trans GYY'
 have GAL'' := show ((u5.setRow ble (ncell (qd less)))).heap[bal]? = _ from (setRow_other _ _ _ _ (by first | exact ne_bal_ble | exact Ne.symm ne_ble_bal)).trans GAL'
 have GLE'' := show ((u5.setRow ble (ncell (qd less)))).heap[ble]? = some (.cells (ncell (qd less)) 94 (0, 0)) from setRow_heap _ _ _ _ _ _ GLE'
 have GMO'' := show ((u5.setRow ble (ncell (qd less)))).heap[bmo]? = _ from (setRow_other _ _ _ _ (by first | exact ne_bmo_ble | exact Ne.symm ne_ble_bmo)).trans GMO'
 replace gb := gb.setRow (nb_ble) (ncell (qd less))
 have HN1 := Box.mk GMO''
 have GP''' := show (((u5.setRow ble (ncell (qd less))).setRow bmo (ncell (qd more)))).heap[bp]? = _ from (setRow_other _ _ _ _ (by first | exact ne_bp_bmo | exact Ne.symm ne_bmo_bp)).trans GP''
 have GQ''' := show (((u5.setRow ble (ncell (qd less))).setRow bmo (ncell (qd more)))).heap[bq]? = _ from (setRow_other _ _ _ _ (by first | exact ne_bq_bmo | exact Ne.symm ne_bmo_bq)).trans GQ''
 have GD''' := show (((u5.setRow ble (ncell (qd less))).setRow bmo (ncell (qd more)))).heap[bd]? = _ from (setRow_other _ _ _ _ (by first | exact ne_bd_bmo | exact Ne.symm ne_bmo_bd)).trans GD''
 have GR''' := show (((u5.setRow ble (ncell (qd less))).setRow bmo (ncell (qd more)))).heap[br]? = _ from (setRow_other _ _ _ _ (by first | exact ne_br_bmo | exact Ne.symm ne_bmo_br)).trans GR''
 have GZ''' := show (((u5.setRow ble (ncell (qd less))).setRow bmo (ncell (qd more)))).heap[bz]? = _ from (setRow_other _ _ _ _ (by first | exact ne_bz_bmo | exact Ne.symm ne_bmo_bz)).trans GZ''
 have GZZ''' := show (((u5.setRow ble (ncell (qd less))).setRow bmo (ncell (qd more)))).heap[bzz]? = _ from (setRow_other _ _ _ _ (by first | exact ne_bzz_bmo | exact Ne.symm ne_bmo_bzz)).trans GZZ''
 have GXX''' := show (((u5.setRow ble (ncell (qd less))).setRow bmo (ncell (qd more)))).heap[bxx]? = _ from (setRow_other _ _ _ _ (by first | exact ne_bxx_bmo | exact Ne.symm ne_bmo_bxx)).trans GXX''
 have GYY''' := show (((u5.setRow ble (ncell (qd less))).setRow bmo (ncell (qd more)))).heap[byy]? = _ from (setRow_other _ _ _ _ (by first | exact ne_byy_bmo | exact Ne.symm ne_bmo_byy)).trans GYY''
 have GAL''' := show (((u5.setRow ble (ncell (qd less))).setRow bmo (ncell (qd more)))).heap[bal]? = _ from (setRow_other _ _ _ _ (by first | exact ne_bal_bmo | exact Ne.symm ne_bmo_bal)).trans GAL''
 have GLE''' := show (((u5.setRow ble (ncell (qd less))).setRow bmo (ncell (qd more)))).heap[ble]? = _ from (setRow_other _ _ _ _ (by first | exact ne_ble_bmo | exact Ne.symm ne_bmo_ble)).trans GLE''
 have GMO''' := show (((u5.setRow ble (ncell (qd less))).setRow bmo (ncell (qd more)))).heap[bmo]? = some (.cells (ncell (qd more)) 94 (0, 0)) from setRow_heap _ _ _ _ _ _ GMO''
 replace gb := gb.setRow (nb_bmo) (ncell (qd more))
 obtain ⟨V5, hWn⟩ : ∃ W, W = ((u5.setRow ble (ncell (qd less))).setRow bmo (ncell (qd more))) := ⟨_, rfl⟩
 replace GP := Box.mk (show V5.heap[bp]? = some (.cells (qcell (qd X1) (qd Y1) (qd Z1)) 96 (0, 0)) from hWn ▸ GP''')
 replace GQ := Box.mk (show V5.heap[bq]? = some (.cells (qcell (qd X2) (qd Y2) (qd Z2)) 96 (0, 0)) from hWn ▸ GQ''')
 replace GD := Box.mk (show V5.heap[bd]? = some (.cells (qcell (qd cd) f0 f0) 96 (0, 0)) from hWn ▸ GD''')
 replace GR := Box.mk (show V5.heap[br]? = some (.cells (qcell f0 f0 f0) 96 (0, 0)) from hWn ▸ GR''')
 replace GZ := Box.mk (show V5.heap[bz]? = some (.cells (ncell (qd z)) 94 (0, 0)) from hWn ▸ GZ''')
 replace GZZ := Box.mk (show V5.heap[bzz]? = some (.cells (ncell (qd zz)) 94 (0, 0)) from hWn ▸ GZZ''')
 replace GXX := Box.mk (show V5.heap[bxx]? = some (.cells (ncell (qd xx)) 94 (0, 0)) from hWn ▸ GXX''')
 replace GYY := Box.mk (show V5.heap[byy]? = some (.cells (ncell (qd yy)) 94 (0, 0)) from hWn ▸ GYY''')
 replace GAL := Box.mk (show V5.heap[bal]? = some (.cells (ncell (qd all)) 94 (0, 0)) from hWn ▸ GAL''')
 have GLE := Box.mk (show V5.heap[ble]? = some (.cells (ncell (qd less)) 94 (0, 0)) from hWn ▸ GLE''')
 have GMO := Box.mk (show V5.heap[bmo]? = some (.cells (ncell (qd more)) 94 (0, 0)) from hWn ▸ GMO''')
 replace B0 := Box.mk (show Gr w V5 from hWn ▸ gb)
 clear gb hF7 hw7 GP' GP'' GP''' GQ' GQ'' GQ''' GD' GD'' GD''' GR' GR'' GR''' GZ' GZ'' GZ''' GZZ' GZZ'' GZZ''' GXX' GXX'' GXX''' GYY' GYY'' GYY''' GAL' GAL'' GAL''' GLE' GLE'' GLE''' GMO' GMO'' GMO''' hble hbmo hnble hnbmo
 go_upto_region 6 with ((first
     | ((with_reducible refine wpList_storeN rfl (.tmp 12) (.tmp 43) rfl ble (qd less) (f0) HN0.out ?_ ?_ ?_); rfl; rfl)
     | ((with_reducible refine wpList_storeN rfl (.tmp 13) (.tmp 46) rfl bmo (qd more) (f0) HN1.out ?_ ?_ ?_); rfl; rfl)))
 try go_frame
 rw [← hWn]
 clear hWn HN0 HN1
 refine wp_region_mix 12 [.flo, .flo, .flo, .flo, .cha, .flo, .flo, .flo, .flo, .cha, .cha, .new (.cells (ncell (f0)) 94)] (by kernel_rfl) (by kernel_rfl) rfl ?_
 simp only [List.take, List.zip, List.zipWith]
 refine gm_fieldQ 0 0 (.tmp 3) rfl bp rfl (qfield0 bp) ?_
 try go_frame
 refine gm_loadG (.tmp 47) rfl bp 0 (qd X1) (qcell (qd X1) (qd Y1) (qd Z1)) GP.out (subq_x _ _ _) rfl ?_
 try go_frame
 refine gm_fieldQ 1 16 (.tmp 4) rfl bq rfl (qfield1 bq) ?_
 try go_frame
 refine gm_loadG (.tmp 49) rfl bq 16 (qd Y2) (qcell (qd X2) (qd Y2) (qd Z2)) GQ.out (subq_y _ _ _) rfl ?_
 try go_frame
 refine gm_call [.agg (ncell (qd X1)), .agg (ncell (qd Y2))] (by kernel_rfl) rfl rfl Stb.tt (fun w1 hw1 _ => (qtimes X1 Y2 w1).mono ?_)
 rintro e w2 ⟨rfl, hw2⟩
 refine ⟨_, rfl, hw2, ?_⟩
 try go_frame
 obtain ⟨c1, hc1⟩ : ∃ x, x = X1 * Y2 := ⟨_, rfl⟩
 rw [← hc1]
 have Ec1 := Box.mk hc1; clear hc1
 refine gm_fieldQ 0 0 (.tmp 4) rfl bq rfl (qfield0 bq) ?_
 try go_frame
 refine gm_loadG (.tmp 52) rfl bq 0 (qd X2) (qcell (qd X2) (qd Y2) (qd Z2)) GQ.out (subq_x _ _ _) rfl ?_
 try go_frame
 refine gm_fieldQ 1 16 (.tmp 3) rfl bp rfl (qfield1 bp) ?_
 try go_frame
 refine gm_loadG (.tmp 54) rfl bp 16 (qd Y1) (qcell (qd X1) (qd Y1) (qd Z1)) GP.out (subq_y _ _ _) rfl ?_
 try go_frame
 refine gm_call [.agg (ncell (qd X2)), .agg (ncell (qd Y1))] (by kernel_rfl) rfl rfl Stb.tt (fun w1 hw1 _ => (qtimes X2 Y1 w1).mono ?_)
 rintro e w2 ⟨rfl, hw2⟩
 refine ⟨_, rfl, hw2, ?_⟩
 try go_frame
 obtain ⟨c2, hc2⟩ : ∃ x, x = X2 * Y1 := ⟨_, rfl⟩
 rw [← hc2]
 have Ec2 := Box.mk hc2; clear hc2
 refine gm_call [.agg (ncell (qd c1)), .agg (ncell (qd c2))] (by kernel_rfl) rfl rfl Stb.tt (fun w1 hw1 _ => (qplus c1 c2 w1).mono ?_)
 rintro e w2 ⟨rfl, hw2⟩
 refine ⟨_, rfl, hw2, ?_⟩
 try go_frame
 obtain ⟨cross, hcross⟩ : ∃ x, x = c1 + c2 := ⟨_, rfl⟩
 rw [← hcross]
 have Ecross := Box.mk hcross; clear hcross
 refine gm_alloc rfl (.cells (ncell (f0)) 94) (fun _ => by kernel_rfl) (fun bcr hbcr hnbcr => ?_)
 try go_frame
 refine gm_nil ?_
 intro u6 hw7 hF7
 simp only [List.drop]
 try go_frame
 have ne_bp_bcr : bp ≠ bcr := Nat.ne_of_lt (Nat.lt_of_lt_of_le (Gr.blt GP.out) hbcr)
 have ne_bq_bcr : bq ≠ bcr := Nat.ne_of_lt (Nat.lt_of_lt_of_le (Gr.blt GQ.out) hbcr)
 have ne_bd_bcr : bd ≠ bcr := Nat.ne_of_lt (Nat.lt_of_lt_of_le (Gr.blt GD.out) hbcr)
 have ne_br_bcr : br ≠ bcr := Nat.ne_of_lt (Nat.lt_of_lt_of_le (Gr.blt GR.out) hbcr)
 have ne_bz_bcr : bz ≠ bcr := Nat.ne_of_lt (Nat.lt_of_lt_of_le (Gr.blt GZ.out) hbcr)
 have ne_bzz_bcr : bzz ≠ bcr := Nat.ne_of_lt (Nat.lt_of_lt_of_le (Gr.blt GZZ.out) hbcr)
 have ne_bxx_bcr : bxx ≠ bcr := Nat.ne_of_lt (Nat.lt_of_lt_of_le (Gr.blt GXX.out) hbcr)
 have ne_byy_bcr : byy ≠ bcr := Nat.ne_of_lt (Nat.lt_of_lt_of_le (Gr.blt GYY.out) hbcr)
 have ne_bal_bcr : bal ≠ bcr := Nat.ne_of_lt (Nat.lt_of_lt_of_le (Gr.blt GAL.out) hbcr)
 have ne_ble_bcr : ble ≠ bcr := Nat.ne_of_lt (Nat.lt_of_lt_of_le (Gr.blt GLE.out) hbcr)
 have ne_bmo_bcr : bmo ≠ bcr := Nat.ne_of_lt (Nat.lt_of_lt_of_le (Gr.blt GMO.out) hbcr)
 have nb_bcr : w.heap.size ≤ bcr := Nat.le_trans B0.out.size hbcr
 have GP' := hw7.block GP.out
 have GQ' := hw7.block GQ.out
 have GD' := hw7.block GD.out
 have GR' := hw7.block GR.out
 have GZ' := hw7.block GZ.out
 have GZZ' := hw7.block GZZ.out
 have GXX' := hw7.block GXX.out
 have GYY' := hw7.block GYY.out
 have GAL' := hw7.block GAL.out
 have GLE' := hw7.block GLE.out
 have GMO' := hw7.block GMO.out
 have GCR' : u6.heap[bcr]? = some (.cells (ncell (f0)) 94 (0, 0)) := hF7.2
 have gb : Gr w u6 := B0.out.trans (Gr.trans (show Gr V5 V5.drew from (Below.refl _ _).drew) hw7)
 have HN0 := Box.mk GCR'
 have GP'' := show ((u6.setRow bcr (ncell (qd cross)))).heap[bp]? = _ from (setRow_other _ _ _ _ (by first | exact ne_bp_bcr | exact Ne.symm ne_bcr_bp)).trans GP'
 have GQ'' := show ((u6.setRow bcr (ncell (qd cross)))).heap[bq]? = _ from (setRow_other _ _ _ _ (by first | exact ne_bq_bcr | exact Ne.symm ne_bcr_bq)).trans GQ'
 have GD'' := show ((u6.setRow bcr (ncell (qd cross)))).heap[bd]? = _ from (setRow_other _ _ _ _ (by first | exact ne_bd_bcr | exact Ne.symm ne_bcr_bd)).trans GD'
 have GR'' := show ((u6.setRow bcr (ncell (qd cross)))).heap[br]? = _ from (setRow_other _ _ _ _ (by first | exact ne_br_bcr | exact Ne.symm ne_bcr_br)).trans GR'
 have GZ'' := show ((u6.setRow bcr (ncell (qd cross)))).heap[bz]? = _ from (setRow_other _ _ _ _ (by first | exact ne_bz_bcr | exact Ne.symm ne_bcr_bz)).trans GZ'
 have GZZ'' := show ((u6.setRow bcr (ncell (qd cross)))).heap[bzz]? = _ from (setRow_other _ _ _ _ (by first | exact ne_bzz_bcr | exact Ne.symm ne_bcr_bzz)).trans GZZ'
 have GXX'' := show ((u6.setRow bcr (ncell (qd cross)))).heap[bxx]? = _ from (setRow_other _ _ _ _ (by first | exact ne_bxx_bcr | exact Ne.symm ne_bcr_bxx)).trans GXX'
 have GYY'' := show ((u6.setRow bcr (ncell (qd cross)))).heap[byy]? = _ from (setRow_other _ _ _ _ (by first | exact ne_byy_bcr | exact Ne.symm ne_bcr_byy)).trans GYY'
 have GAL'' := show ((u6.setRow bcr (ncell (qd cross)))).heap[bal]? = _ from (setRow_other _ _ _ _ (by first | exact ne_bal_bcr | exact Ne.symm ne_bcr_bal)).trans GAL'
 have GLE'' := show ((u6.setRow bcr (ncell (qd cross)))).heap[ble]? = _ from (setRow_other _ _ _ _ (by first | exact ne_ble_bcr | exact Ne.symm ne_bcr_ble)).trans GLE'
 have GMO'' := show ((u6.setRow bcr (ncell (qd cross)))).heap[bmo]? = _ from (setRow_other _ _ _ _ (by first | exact ne_bmo_bcr | exact Ne.symm ne_bcr_bmo)).trans GMO'
 have GCR'' := show ((u6.setRow bcr (ncell (qd cross)))).heap[bcr]? = some (.cells (ncell (qd cross)) 94 (0, 0)) from setRow_heap _ _ _ _ _ _ GCR'
 replace gb := gb.setRow (nb_bcr) (ncell (qd cross))
 obtain ⟨V6, hWn⟩ : ∃ W, W = (u6.setRow bcr (ncell (qd cross))) := ⟨_, rfl⟩
 replace GP := Box.mk (show V6.heap[bp]? = some (.cells (qcell (qd X1) (qd Y1) (qd Z1)) 96 (0, 0)) from hWn ▸ GP'')
 replace GQ := Box.mk (show V6.heap[bq]? = some (.cells (qcell (qd X2) (qd Y2) (qd Z2)) 96 (0, 0)) from hWn ▸ GQ'')
 replace GD := Box.mk (show V6.heap[bd]? = some (.cells (qcell (qd cd) f0 f0) 96 (0, 0)) from hWn ▸ GD'')
 replace GR := Box.mk (show V6.heap[br]? = some (.cells (qcell f0 f0 f0) 96 (0, 0)) from hWn ▸ GR'')
 replace GZ := Box.mk (show V6.heap[bz]? = some (.cells (ncell (qd z)) 94 (0, 0)) from hWn ▸ GZ'')
 replace GZZ := Box.mk (show V6.heap[bzz]? = some (.cells (ncell (qd zz)) 94 (0, 0)) from hWn ▸ GZZ'')
 replace GXX := Box.mk (show V6.heap[bxx]? = some (.cells (ncell (qd xx)) 94 (0, 0)) from hWn ▸ GXX'')
 replace GYY := Box.mk (show V6.heap[byy]? = some (.cells (ncell (qd yy)) 94 (0, 0)) from hWn ▸ GYY'')
 replace GAL := Box.mk (show V6.heap[bal]? = some (.cells (ncell (qd all)) 94 (0, 0)) from hWn ▸ GAL'')
 replace GLE := Box.mk (show V6.heap[ble]? = some (.cells (ncell (qd less)) 94 (0, 0)) from hWn ▸ GLE'')
 replace GMO := Box.mk (show V6.heap[bmo]? = some (.cells (ncell (qd more)) 94 (0, 0)) from hWn ▸ GMO'')
 have GCR := Box.mk (show V6.heap[bcr]? = some (.cells (ncell (qd cross)) 94 (0, 0)) from hWn ▸ GCR'')
 replace B0 := Box.mk (show Gr w V6 from hWn ▸ gb)
 clear gb hF7 hw7 GP' GP'' GQ' GQ'' GD' GD'' GR' GR'' GZ' GZ'' GZZ' GZZ'' GXX' GXX'' GYY' GYY'' GAL' GAL'' GLE' GLE'' GMO' GMO'' GCR' GCR'' hbcr hnbcr
 go_upto_region 7 with (((with_reducible refine wpList_storeN rfl (.tmp 14) (.tmp 57) rfl bcr (qd cross) (f0) HN0.out ?_ ?_ ?_); rfl; rfl))
 try go_frame
 rw [← hWn]
 clear hWn HN0
 refine wp_region_mix 6 [.flo, .flo, .cha, .flo, .cha, .new (.cells (ncell (f0)) 94)] (by kernel_rfl) (by kernel_rfl) rfl ?_
 simp only [List.take, List.zip, List.zipWith]
 refine gm_loadN (.tmp 7) rfl bz (qd z) GZ.out rfl ?_
 try go_frame
 refine gm_loadN (.tmp 14) rfl bcr (qd cross) GCR.out rfl ?_
 try go_frame
 refine gm_call [.agg (ncell (qd z)), .agg (ncell (qd cross))] (by kernel_rfl) rfl rfl Stb.tt (fun w1 hw1 _ => (qtimes z cross w1).mono ?_)
 rintro e w2 ⟨rfl, hw2⟩
 refine ⟨_, rfl, hw2, ?_⟩
 try go_frame
 obtain ⟨x1, hx1⟩ : ∃ x, x = z * cross := ⟨_, rfl⟩
 rw [← hx1]
 have Ex1 := Box.mk hx1; clear hx1
 refine gm_loadN (.tmp 12) rfl ble (qd less) GLE.out rfl ?_
 try go_frame
 refine gm_call [.agg (ncell (qd x1)), .agg (ncell (qd less))] (by kernel_rfl) rfl rfl Stb.tt (fun w1 hw1 _ => (qtimes x1 less w1).mono ?_)
 rintro e w2 ⟨rfl, hw2⟩
 refine ⟨_, rfl, hw2, ?_⟩
 try go_frame
 obtain ⟨x, hx⟩ : ∃ x, x = x1 * less := ⟨_, rfl⟩
 rw [← hx]
 have Ex := Box.mk hx; clear hx
 refine gm_alloc rfl (.cells (ncell (f0)) 94) (fun _ => by kernel_rfl) (fun bx hbx hnbx => ?_)
 try go_frame
 refine gm_nil ?_
 intro u7 hw7 hF7
 simp only [List.drop]
 try go_frame
 have ne_br_bx : br ≠ bx := Nat.ne_of_lt (Nat.lt_of_lt_of_le (Gr.blt GR.out) hbx)
 have ne_bz_bx : bz ≠ bx := Nat.ne_of_lt (Nat.lt_of_lt_of_le (Gr.blt GZ.out) hbx)
 have ne_bzz_bx : bzz ≠ bx := Nat.ne_of_lt (Nat.lt_of_lt_of_le (Gr.blt GZZ.out) hbx)
 have ne_bxx_bx : bxx ≠ bx := Nat.ne_of_lt (Nat.lt_of_lt_of_le (Gr.blt GXX.out) hbx)
 have ne_byy_bx : byy ≠ bx := Nat.ne_of_lt (Nat.lt_of_lt_of_le (Gr.blt GYY.out) hbx)
 have ne_bal_bx : bal ≠ bx := Nat.ne_of_lt (Nat.lt_of_lt_of_le (Gr.blt GAL.out) hbx)
 have ne_ble_bx : ble ≠ bx := Nat.ne_of_lt (Nat.lt_of_lt_of_le (Gr.blt GLE.out) hbx)
 have ne_bmo_bx : bmo ≠ bx := Nat.ne_of_lt (Nat.lt_of_lt_of_le (Gr.blt GMO.out) hbx)
 have ne_bcr_bx : bcr ≠ bx := Nat.ne_of_lt (Nat.lt_of_lt_of_le (Gr.blt GCR.out) hbx)
 have nb_bx : w.heap.size ≤ bx := Nat.le_trans B0.out.size hbx
 have GR' := hw7.block GR.out
 have GZ' := hw7.block GZ.out
 have GZZ' := hw7.block GZZ.out
 have GXX' := hw7.block GXX.out
 have GYY' := hw7.block GYY.out
 have GAL' := hw7.block GAL.out
 have GLE' := hw7.block GLE.out
 have GMO' := hw7.block GMO.out
 have GCR' := hw7.block GCR.out
 have GX' : u7.heap[bx]? = some (.cells (ncell (f0)) 94 (0, 0)) := hF7.2
 have gb : Gr w u7 := B0.out.trans (Gr.trans (show Gr V6 V6.drew from (Below.refl _ _).drew) hw7)
 have HN0 := Box.mk GX'
 have GR'' := show ((u7.setRow bx (ncell (qd x)))).heap[br]? = _ from (setRow_other _ _ _ _ (by first | exact ne_br_bx | exact Ne.symm ne_bx_br)).trans GR'
 have GZ'' := show ((u7.setRow bx (ncell (qd x)))).heap[bz]? = _ from (setRow_other _ _ _ _ (by first | exact ne_bz_bx | exact Ne.symm ne_bx_bz)).trans GZ'
 have GZZ'' := show ((u7.setRow bx (ncell (qd x)))).heap[bzz]? = _ from (setRow_other _ _ _ _ (by first | exact ne_bzz_bx | exact Ne.symm ne_bx_bzz)).trans GZZ'
 have GXX'' := show ((u7.setRow bx (ncell (qd x)))).heap[bxx]? = _ from (setRow_other _ _ _ _ (by first | exact ne_bxx_bx | exact Ne.symm ne_bx_bxx)).trans GXX'
 have GYY'' := show ((u7.setRow bx (ncell (qd x)))).heap[byy]? = _ from (setRow_other _ _ _ _ (by first | exact ne_byy_bx | exact Ne.symm ne_bx_byy)).trans GYY'
 have GAL'' := show ((u7.setRow bx (ncell (qd x)))).heap[bal]? = _ from (setRow_other _ _ _ _ (by first | exact ne_bal_bx | exact Ne.symm ne_bx_bal)).trans GAL'
 have GLE'' := show ((u7.setRow bx (ncell (qd x)))).heap[ble]? = _ from (setRow_other _ _ _ _ (by first | exact ne_ble_bx | exact Ne.symm ne_bx_ble)).trans GLE'
 have GMO'' := show ((u7.setRow bx (ncell (qd x)))).heap[bmo]? = _ from (setRow_other _ _ _ _ (by first | exact ne_bmo_bx | exact Ne.symm ne_bx_bmo)).trans GMO'
 have GCR'' := show ((u7.setRow bx (ncell (qd x)))).heap[bcr]? = _ from (setRow_other _ _ _ _ (by first | exact ne_bcr_bx | exact Ne.symm ne_bx_bcr)).trans GCR'
 have GX'' := show ((u7.setRow bx (ncell (qd x)))).heap[bx]? = some (.cells (ncell (qd x)) 94 (0, 0)) from setRow_heap _ _ _ _ _ _ GX'
 replace gb := gb.setRow (nb_bx) (ncell (qd x))
 obtain ⟨V7, hWn⟩ : ∃ W, W = (u7.setRow bx (ncell (qd x))) := ⟨_, rfl⟩
 replace GR := Box.mk (show V7.heap[br]? = some (.cells (qcell f0 f0 f0) 96 (0, 0)) from hWn ▸ GR'')
 replace GZ := Box.mk (show V7.heap[bz]? = some (.cells (ncell (qd z)) 94 (0, 0)) from hWn ▸ GZ'')
 replace GZZ := Box.mk (show V7.heap[bzz]? = some (.cells (ncell (qd zz)) 94 (0, 0)) from hWn ▸ GZZ'')
 replace GXX := Box.mk (show V7.heap[bxx]? = some (.cells (ncell (qd xx)) 94 (0, 0)) from hWn ▸ GXX'')
 replace GYY := Box.mk (show V7.heap[byy]? = some (.cells (ncell (qd yy)) 94 (0, 0)) from hWn ▸ GYY'')
 replace GAL := Box.mk (show V7.heap[bal]? = some (.cells (ncell (qd all)) 94 (0, 0)) from hWn ▸ GAL'')
 replace GLE := Box.mk (show V7.heap[ble]? = some (.cells (ncell (qd less)) 94 (0, 0)) from hWn ▸ GLE'')
 replace GMO := Box.mk (show V7.heap[bmo]? = some (.cells (ncell (qd more)) 94 (0, 0)) from hWn ▸ GMO'')
 replace GCR := Box.mk (show V7.heap[bcr]? = some (.cells (ncell (qd cross)) 94 (0, 0)) from hWn ▸ GCR'')
 have GX := Box.mk (show V7.heap[bx]? = some (.cells (ncell (qd x)) 94 (0, 0)) from hWn ▸ GX'')
 replace B0 := Box.mk (show Gr w V7 from hWn ▸ gb)
 clear gb hF7 hw7 GR' GR'' GZ' GZ'' GZZ' GZZ'' GXX' GXX'' GYY' GYY'' GAL' GAL'' GLE' GLE'' GMO' GMO'' GCR' GCR'' GX' GX'' hbx hnbx
 go_upto_region 8 with (((with_reducible refine wpList_storeN rfl (.tmp 15) (.tmp 62) rfl bx (qd x) (f0) HN0.out ?_ ?_ ?_); rfl; rfl))
 try go_frame
 rw [← hWn]
 clear hWn HN0
 refine wp_region_mix 8 [.flo, .flo, .flo, .cha, .cha, .flo, .cha, .new (.cells (ncell (f0)) 94)] (by kernel_rfl) (by kernel_rfl) rfl ?_
 simp only [List.take, List.zip, List.zipWith]
 refine gm_loadN (.tmp 7) rfl bz (qd z) GZ.out rfl ?_
 try go_frame
 refine gm_loadN (.tmp 10) rfl byy (qd yy) GYY.out rfl ?_
 try go_frame
 refine gm_loadN (.tmp 9) rfl bxx (qd xx) GXX.out rfl ?_
 try go_frame
 refine gm_call [.agg (ncell (qd yy)), .agg (ncell (qd xx))] (by kernel_rfl) rfl rfl Stb.tt (fun w1 hw1 _ => (qplus yy xx w1).mono ?_)
 rintro e w2 ⟨rfl, hw2⟩
 refine ⟨_, rfl, hw2, ?_⟩
 try go_frame
 obtain ⟨s1, hs1⟩ : ∃ x, x = yy + xx := ⟨_, rfl⟩
 rw [← hs1]
 have Es1 := Box.mk hs1; clear hs1
 refine gm_call [.agg (ncell (qd z)), .agg (ncell (qd s1))] (by kernel_rfl) rfl rfl Stb.tt (fun w1 hw1 _ => (qtimes z s1 w1).mono ?_)
 rintro e w2 ⟨rfl, hw2⟩
 refine ⟨_, rfl, hw2, ?_⟩
 try go_frame
 obtain ⟨s2, hs2⟩ : ∃ x, x = z * s1 := ⟨_, rfl⟩
 rw [← hs2]
 have Es2 := Box.mk hs2; clear hs2
 refine gm_loadN (.tmp 13) rfl bmo (qd more) GMO.out rfl ?_
 try go_frame
 refine gm_call [.agg (ncell (qd s2)), .agg (ncell (qd more))] (by kernel_rfl) rfl rfl Stb.tt (fun w1 hw1 _ => (qtimes s2 more w1).mono ?_)
 rintro e w2 ⟨rfl, hw2⟩
 refine ⟨_, rfl, hw2, ?_⟩
 try go_frame
 obtain ⟨y, hy⟩ : ∃ x, x = s2 * more := ⟨_, rfl⟩
 rw [← hy]
 have Ey := Box.mk hy; clear hy
 refine gm_alloc rfl (.cells (ncell (f0)) 94) (fun _ => by kernel_rfl) (fun by_ hby_ hnby_ => ?_)
 try go_frame
 refine gm_nil ?_
 intro u8 hw7 hF7
 simp only [List.drop]
 try go_frame
 have ne_br_by_ : br ≠ by_ := Nat.ne_of_lt (Nat.lt_of_lt_of_le (Gr.blt GR.out) hby_)
 have ne_bz_by_ : bz ≠ by_ := Nat.ne_of_lt (Nat.lt_of_lt_of_le (Gr.blt GZ.out) hby_)
 have ne_bzz_by_ : bzz ≠ by_ := Nat.ne_of_lt (Nat.lt_of_lt_of_le (Gr.blt GZZ.out) hby_)
 have ne_bxx_by_ : bxx ≠ by_ := Nat.ne_of_lt (Nat.lt_of_lt_of_le (Gr.blt GXX.out) hby_)
 have ne_byy_by_ : byy ≠ by_ := Nat.ne_of_lt (Nat.lt_of_lt_of_le (Gr.blt GYY.out) hby_)
 have ne_bal_by_ : bal ≠ by_ := Nat.ne_of_lt (Nat.lt_of_lt_of_le (Gr.blt GAL.out) hby_)
 have ne_ble_by_ : ble ≠ by_ := Nat.ne_of_lt (Nat.lt_of_lt_of_le (Gr.blt GLE.out) hby_)
 have ne_bmo_by_ : bmo ≠ by_ := Nat.ne_of_lt (Nat.lt_of_lt_of_le (Gr.blt GMO.out) hby_)
 have ne_bcr_by_ : bcr ≠ by_ := Nat.ne_of_lt (Nat.lt_of_lt_of_le (Gr.blt GCR.out) hby_)
 have ne_bx_by_ : bx ≠ by_ := Nat.ne_of_lt (Nat.lt_of_lt_of_le (Gr.blt GX.out) hby_)
 have nb_by_ : w.heap.size ≤ by_ := Nat.le_trans B0.out.size hby_
 have GR' := hw7.block GR.out
 have GZ' := hw7.block GZ.out
 have GZZ' := hw7.block GZZ.out
 have GXX' := hw7.block GXX.out
 have GYY' := hw7.block GYY.out
 have GAL' := hw7.block GAL.out
 have GLE' := hw7.block GLE.out
 have GMO' := hw7.block GMO.out
 have GCR' := hw7.block GCR.out
 have GX' := hw7.block GX.out
 have GY' : u8.heap[by_]? = some (.cells (ncell (f0)) 94 (0, 0)) := hF7.2
 have gb : Gr w u8 := B0.out.trans (Gr.trans (show Gr V7 V7.drew from (Below.refl _ _).drew) hw7)
 have HN0 := Box.mk GY'
 have GR'' := show ((u8.setRow by_ (ncell (qd y)))).heap[br]? = _ from (setRow_other _ _ _ _ (by first | exact ne_br_by_ | exact Ne.symm ne_by__br)).trans GR'
 have GZ'' := show ((u8.setRow by_ (ncell (qd y)))).heap[bz]? = _ from (setRow_other _ _ _ _ (by first | exact ne_bz_by_ | exact Ne.symm ne_by__bz)).trans GZ'
 have GZZ'' := show ((u8.setRow by_ (ncell (qd y)))).heap[bzz]? = _ from (setRow_other _ _ _ _ (by first | exact ne_bzz_by_ | exact Ne.symm ne_by__bzz)).trans GZZ'
 have GXX'' := show ((u8.setRow by_ (ncell (qd y)))).heap[bxx]? = _ from (setRow_other _ _ _ _ (by first | exact ne_bxx_by_ | exact Ne.symm ne_by__bxx)).trans GXX'
 have GYY'' := show ((u8.setRow by_ (ncell (qd y)))).heap[byy]? = _ from (setRow_other _ _ _ _ (by first | exact ne_byy_by_ | exact Ne.symm ne_by__byy)).trans GYY'
 have GAL'' := show ((u8.setRow by_ (ncell (qd y)))).heap[bal]? = _ from (setRow_other _ _ _ _ (by first | exact ne_bal_by_ | exact Ne.symm ne_by__bal)).trans GAL'
 have GLE'' := show ((u8.setRow by_ (ncell (qd y)))).heap[ble]? = _ from (setRow_other _ _ _ _ (by first | exact ne_ble_by_ | exact Ne.symm ne_by__ble)).trans GLE'
 have GMO'' := show ((u8.setRow by_ (ncell (qd y)))).heap[bmo]? = _ from (setRow_other _ _ _ _ (by first | exact ne_bmo_by_ | exact Ne.symm ne_by__bmo)).trans GMO'
 have GCR'' := show ((u8.setRow by_ (ncell (qd y)))).heap[bcr]? = _ from (setRow_other _ _ _ _ (by first | exact ne_bcr_by_ | exact Ne.symm ne_by__bcr)).trans GCR'
 have GX'' := show ((u8.setRow by_ (ncell (qd y)))).heap[bx]? = _ from (setRow_other _ _ _ _ (by first | exact ne_bx_by_ | exact Ne.symm ne_by__bx)).trans GX'
 have GY'' := show ((u8.setRow by_ (ncell (qd y)))).heap[by_]? = some (.cells (ncell (qd y)) 94 (0, 0)) from setRow_heap _ _ _ _ _ _ GY'
 replace gb := gb.setRow (nb_by_) (ncell (qd y))
 obtain ⟨V8, hWn⟩ : ∃ W, W = (u8.setRow by_ (ncell (qd y))) := ⟨_, rfl⟩
 replace GR := Box.mk (show V8.heap[br]? = some (.cells (qcell f0 f0 f0) 96 (0, 0)) from hWn ▸ GR'')
 replace GZ := Box.mk (show V8.heap[bz]? = some (.cells (ncell (qd z)) 94 (0, 0)) from hWn ▸ GZ'')
 replace GZZ := Box.mk (show V8.heap[bzz]? = some (.cells (ncell (qd zz)) 94 (0, 0)) from hWn ▸ GZZ'')
 replace GXX := Box.mk (show V8.heap[bxx]? = some (.cells (ncell (qd xx)) 94 (0, 0)) from hWn ▸ GXX'')
 replace GYY := Box.mk (show V8.heap[byy]? = some (.cells (ncell (qd yy)) 94 (0, 0)) from hWn ▸ GYY'')
 replace GAL := Box.mk (show V8.heap[bal]? = some (.cells (ncell (qd all)) 94 (0, 0)) from hWn ▸ GAL'')
 replace GLE := Box.mk (show V8.heap[ble]? = some (.cells (ncell (qd less)) 94 (0, 0)) from hWn ▸ GLE'')
 replace GMO := Box.mk (show V8.heap[bmo]? = some (.cells (ncell (qd more)) 94 (0, 0)) from hWn ▸ GMO'')
 replace GCR := Box.mk (show V8.heap[bcr]? = some (.cells (ncell (qd cross)) 94 (0, 0)) from hWn ▸ GCR'')
 replace GX := Box.mk (show V8.heap[bx]? = some (.cells (ncell (qd x)) 94 (0, 0)) from hWn ▸ GX'')
 have GY := Box.mk (show V8.heap[by_]? = some (.cells (ncell (qd y)) 94 (0, 0)) from hWn ▸ GY'')
 replace B0 := Box.mk (show Gr w V8 from hWn ▸ gb)
 clear gb hF7 hw7 GR' GR'' GZ' GZ'' GZZ' GZZ'' GXX' GXX'' GYY' GYY'' GAL' GAL'' GLE' GLE'' GMO' GMO'' GCR' GCR'' GX' GX'' GY' GY'' hby_ hnby_
 go_upto_region 9 with (((with_reducible refine wpList_storeN rfl (.tmp 16) (.tmp 69) rfl by_ (qd y) (f0) HN0.out ?_ ?_ ?_); rfl; rfl))
 try go_frame
 rw [← hWn]
 clear hWn HN0
 refine wp_region_mix 6 [.flo, .flo, .flo, .flo, .cha, .flo] (by kernel_rfl) (by kernel_rfl) rfl ?_
 simp only [List.take, List.zip, List.zipWith]
 refine gm_loadN (.tmp 15) rfl bx (qd x) GX.out rfl ?_
 try go_frame
 refine gm_loadN (.tmp 16) rfl by_ (qd y) GY.out rfl ?_
 try go_frame
 refine gm_loadN (.tmp 12) rfl ble (qd less) GLE.out rfl ?_
 try go_frame
 refine gm_loadN (.tmp 13) rfl bmo (qd more) GMO.out rfl ?_
 try go_frame
 refine gm_call [.agg (ncell (qd less)), .agg (ncell (qd more))] (by kernel_rfl) rfl rfl Stb.tt (fun w1 hw1 _ => (qtimes less more w1).mono ?_)
 rintro e w2 ⟨rfl, hw2⟩
 refine ⟨_, rfl, hw2, ?_⟩
 try go_frame
 obtain ⟨lm, hlm⟩ : ∃ x, x = less * more := ⟨_, rfl⟩
 rw [← hlm]
 have Elm := Box.mk hlm; clear hlm
 refine gm_build [(0, .agg (ncell (qd x))), (1, .agg (ncell (qd y))), (2, .agg (ncell (qd lm)))] rfl rfl _ (qbuild3 (qd x) (qd y) (qd lm)) ?_
 try go_frame
 refine gm_nil ?_
 intro u9 hw7 hF7
 simp only [List.drop]
 try go_frame
 have GR' := hw7.block GR.out
 have GZ' := hw7.block GZ.out
 have GZZ' := hw7.block GZZ.out
 have GXX' := hw7.block GXX.out
 have GYY' := hw7.block GYY.out
 have GAL' := hw7.block GAL.out
 have GLE' := hw7.block GLE.out
 have GMO' := hw7.block GMO.out
 have GCR' := hw7.block GCR.out
 have GX' := hw7.block GX.out
 have GY' := hw7.block GY.out
 have gb : Gr w u9 := B0.out.trans (Gr.trans (show Gr V8 V8.drew from (Below.refl _ _).drew) hw7)
 replace GR := Box.mk (show u9.heap[br]? = some (.cells (qcell f0 f0 f0) 96 (0, 0)) from GR')
 replace GZ := Box.mk (show u9.heap[bz]? = some (.cells (ncell (qd z)) 94 (0, 0)) from GZ')
 replace GZZ := Box.mk (show u9.heap[bzz]? = some (.cells (ncell (qd zz)) 94 (0, 0)) from GZZ')
 replace GXX := Box.mk (show u9.heap[bxx]? = some (.cells (ncell (qd xx)) 94 (0, 0)) from GXX')
 replace GYY := Box.mk (show u9.heap[byy]? = some (.cells (ncell (qd yy)) 94 (0, 0)) from GYY')
 replace GAL := Box.mk (show u9.heap[bal]? = some (.cells (ncell (qd all)) 94 (0, 0)) from GAL')
 replace GLE := Box.mk (show u9.heap[ble]? = some (.cells (ncell (qd less)) 94 (0, 0)) from GLE')
 replace GMO := Box.mk (show u9.heap[bmo]? = some (.cells (ncell (qd more)) 94 (0, 0)) from GMO')
 replace GCR := Box.mk (show u9.heap[bcr]? = some (.cells (ncell (qd cross)) 94 (0, 0)) from GCR')
 replace GX := Box.mk (show u9.heap[bx]? = some (.cells (ncell (qd x)) 94 (0, 0)) from GX')
 replace GY := Box.mk (show u9.heap[by_]? = some (.cells (ncell (qd y)) 94 (0, 0)) from GY')
 replace B0 := Box.mk (show Gr w u9 from gb)
 clear gb hF7 hw7 GR' GZ' GZZ' GXX' GYY' GAL' GLE' GMO' GCR' GX' GY'
 go_wp2_with ((with_reducible refine wpList_storeQ rfl (.tmp 6) (.tmp 75) rfl br (qd x) (qd y) (qd lm) (qcell f0 f0 f0) rfl GR.out ?_ ?_ ?_); rfl; rfl)
 exact bodyPost_ret (results_cell_row (p := 6) (ty := 96) rfl _ _ br 96 (qcell (qd x) (qd y) (qd lm)) (0, 0) _ rfl (setRow_heap _ _ _ _ _ _ GR.out) Tryz.underlying96 rfl (by kernel_rfl)) rfl ⟨x, y, lm, rfl, by rw [Elm.out, Ey.out, Es2.out, Es1.out, Ex.out, Ex1.out, Ecross.out, Ec2.out, Ec1.out, Emore.out, Eless.out, Eall.out, Exy.out, Eyy.out, Exx.out, Ezz.out, Ez.out]; exact HREP.out, B0.out.setRow nb_br _⟩
set_option maxRecDepth 100000 in
set_option maxHeartbeats 8000000 in
theorem qzero (x : F) (w : World) : Calls Tryz.prog 106 #[.agg (ncell (qd x))] w fun e w' => e = .returned (.bool (zB x)) ∧ Gr w w' := by
 obtain ⟨W0, hW0⟩ : ∃ W, W = w.alloc (.cells (ncell (qd x)) 94) := ⟨_, rfl⟩
 have g0 : W0.heap[w.heap.size]? = some (.cells (ncell (qd x)) 94 (0, 0)) := by rw [hW0]; exact heap_alloc_new _ _
 have GX := Box.mk g0; have B0 := Box.mk (show Gr w W0 from by rw [hW0]; exact Gr.alloc _ _); clear g0
 obtain ⟨bx, hbx⟩ : ∃ b, b = w.heap.size := ⟨_, rfl⟩
 rw [← hbx] at GX
 go_enter Tryz.func106, Tryz.ntmps106
 go_upto_region 1 with (fail)
 rw [← hW0, ← hbx]
 clear hW0 hbx
 refine wp_region_mix 3 [.cha, .flo, .cha] (by kernel_rfl) (by kernel_rfl) rfl ?_
 simp only [List.take, List.zip, List.zipWith]
 refine gm_call [.int .i64 0] (by kernel_rfl) rfl rfl Stb.tt (fun w1 hw1 _ => (qsmall0 w1).mono ?_)
 rintro e w2 ⟨rfl, hw2⟩
 refine ⟨_, rfl, hw2, ?_⟩
 try go_frame
 refine gm_loadN (.tmp 1) rfl bx (qd x) GX.out rfl ?_
 try go_frame
 refine gm_call [.agg (ncell (qd 0)), .agg (ncell (qd x))] (by kernel_rfl) rfl rfl Stb.tt (fun w1 hw1 _ => ((fun v => belowD v (0 : F).val x.val (val_dw 0) (val_dw x)) w1).mono ?_)
 rintro e w2 ⟨rfl, hw2⟩
 refine ⟨_, rfl, hw2, ?_⟩
 try go_frame
 refine gm_nil ?_
 intro u1 hw7 hF7
 simp only [List.drop]
 try go_frame
 have GX' := hw7.block GX.out
 have gb : Gr w u1 := B0.out.trans (Gr.trans (show Gr W0 W0.drew from (Below.refl _ _).drew) hw7)
 replace GX := Box.mk (show u1.heap[bx]? = some (.cells (ncell (qd x)) 94 (0, 0)) from GX')
 replace B0 := Box.mk (show Gr w u1 from gb)
 clear gb hF7 hw7 GX'
 have hn := not_lt_zero_val x
 obtain ⟨c, hc⟩ : ∃ c, c = ltN (0 : F).val x.val := ⟨_, rfl⟩
 rw [← hc] at hn ⊢
 have HN := Box.mk hn
 clear hn hc
 go_wp2
 go_ret
 exact ⟨by rw [← HN.out]; rfl, B0.out⟩
set_option maxRecDepth 100000 in
set_option maxHeartbeats 8000000 in
theorem rBase (w : World) : Calls Tryz.prog 40 #[] w fun e w' => e = .returned (.string (sbytes (fv 4 * fi (fv 5)).val)) ∧ Gr w w' := by
 go_enter Tryz.func40, Tryz.ntmps40
 go_wp2_with fail
 refine (qsmall 4 (by omega) _).mono ?_
 rintro e w1 ⟨rfl, hg⟩
 have G := Box.mk hg; clear hg
 go_wp2_with fail
 refine (qsmall 5 (by omega) _).mono ?_
 rintro e w2 ⟨rfl, hg⟩
 replace G := Box.mk (G.out.trans hg); clear hg
 go_wp2_with fail
 refine (qinv (fv 5) _).mono ?_
 rintro e w3 ⟨rfl, hg⟩
 replace G := Box.mk (G.out.trans hg); clear hg
 go_wp2_with fail
 refine (qtimes (fv 4) (fi (fv 5)) _).mono ?_
 rintro e w4 ⟨rfl, hg⟩
 replace G := Box.mk (G.out.trans hg); clear hg
 go_wp2_with fail
 refine (qbytes _ _).mono ?_
 rintro e w5 ⟨rfl, hg⟩
 replace G := Box.mk (G.out.trans hg); clear hg
 go_wp2
 go_ret
 exact ⟨rfl, G.out⟩
end Go.Proofs.YtafhncpaoolljaaGreat.Fe

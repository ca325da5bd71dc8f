/- Logs: what always holds of a log: its segments follow one another, each head is a record's. The logs' laws: region, over, laid. Logs: the invariant behind a drop, Open, Records, Format. Logs: Open. The document of logs: Open. Logs: drop, DropOldest, DropNewest, Dead. -/
import Derived.Test.YtjednaendedpdaaGreatM13
import Derived.Test.YtjednaendedpdaaGreatM06
import Derived.Test.YtjednaendedpdaaGreatM09
import Derived.Deep.QuietTactic
import Derived.BigQuiet
import Derived.Test.YtjednaendedpdaaGreatM11
import Derived.Test.YtjednaendedpdaaGreatM10
namespace Go.Proofs.YtjednaendedpdaaGreat
set_option maxRecDepth 100000
set_option linter.unusedVariables false
open Go Go.RowKit

/-- m segments from a block and a number on. -/
def chainL (B b0 n0 m : Nat) : List (Nat × Nat) := (List.range m).map fun i => ((b0 + i) % B, n0 + i)
theorem chainL_len (B b0 n0 m : Nat) : (chainL B b0 n0 m).length = m := by simp [chainL]
theorem chainL_at (B b0 n0 m i : Nat) (h : i < m) : (chainL B b0 n0 m)[i]? = some ((b0 + i) % B, n0 + i) := by simp [chainL, h]
theorem chainL_succ (B b0 n0 m : Nat) : chainL B b0 n0 (m + 1) = chainL B b0 n0 m ++ [((b0 + m) % B, n0 + m)] := by simp [chainL, List.range_succ]
theorem chainL_mem {B b0 n0 m : Nat} {x : Nat × Nat} (h : x ∈ chainL B b0 n0 m) : ∃ i, i < m ∧ x = ((b0 + i) % B, n0 + i) := by
  unfold chainL at h
  obtain ⟨i, hi, rfl⟩ := List.mem_map.1 h
  exact ⟨i, List.mem_range.1 hi, rfl⟩
theorem chainL_in {B b0 n0 m i : Nat} (h : i < m) : ((b0 + i) % B, n0 + i) ∈ chainL B b0 n0 m := List.mem_map.2 ⟨i, List.mem_range.2 h, rfl⟩
theorem mod_ne {B b0 i j : Nat} (hi : i < B) (hj : j < B) (h : (b0 + i) % B = (b0 + j) % B) : i = j := by
  have h1 := Nat.div_add_mod (b0 + i) B
  have h2 := Nat.div_add_mod (b0 + j) B
  rw [h] at h1
  rcases Nat.lt_trichotomy ((b0 + i) / B) ((b0 + j) / B) with hq | hq | hq
  · have : B * ((b0 + i) / B) + B ≤ B * ((b0 + j) / B) := by rw [← Nat.mul_succ]; exact Nat.mul_le_mul_left _ hq
    omega
  · rw [hq] at h1; omega
  · have : B * ((b0 + j) / B) + B ≤ B * ((b0 + i) / B) := by rw [← Nat.mul_succ]; exact Nat.mul_le_mul_left _ hq
    omega
theorem chainL_tail (B b0 n0 m : Nat) (hB : 0 < B) : (chainL B b0 n0 (m + 1)).eraseIdx 0 = chainL B ((b0 + 1) % B) (n0 + 1) m := by
  rw [List.eraseIdx_zero]
  apply List.ext_getElem?; intro i
  rw [List.getElem?_tail]
  by_cases hi : i < m
  · rw [chainL_at _ _ _ _ _ hi, chainL_at _ _ _ _ _ (by omega)]
    have : (b0 + (i + 1)) % B = ((b0 + 1) % B + i) % B := by rw [Nat.mod_add_mod]; congr 1; omega
    rw [this, show n0 + (i + 1) = n0 + 1 + i by omega]
  · rw [List.getElem?_eq_none (by rw [chainL_len]; omega), List.getElem?_eq_none (by rw [chainL_len]; omega)]
theorem chainL_init (B b0 n0 m : Nat) : (chainL B b0 n0 (m + 1)).eraseIdx m = chainL B b0 n0 m := by
  rw [chainL_succ, List.eraseIdx_append_of_length_le (by rw [chainL_len]; exact Nat.le_refl _), chainL_len, Nat.sub_self]; simp
/-- What always holds of a log's bytes. -/
structure LBy (F B : Nat) (s : FS) (segs : List (Nat × Nat)) : Prop where
  ok : s.Ok
  inn : In s.n.length F B
  ch : ∃ b0 n0 m, b0 < B ∧ 1 ≤ n0 ∧ 1 ≤ m ∧ m ≤ B ∧ segs = chainL B b0 n0 m
  hd : ∀ x ∈ segs, numL (s.pg F x.1 0) = x.2
  fr : ∀ b, b < B → (∀ x ∈ segs, x.1 ≠ b) → numL (s.pg F b 0) = 0
  gd : ∀ x ∈ segs, Good (s.blk F x.1)
/-- .. of a log. -/
structure LInv (F B : Nat) (s : FS) (l : LS) : Prop where
  by_ : LBy F B s l.segs
  alive : s.dead = false
  live : l.dead = false
/-- All records of a log. -/
def FS.lall (s : FS) (F : Nat) (segs : List (Nat × Nat)) : List (List UInt8) := segs.flatMap fun x => recN (s.blk F x.1) 7 1
theorem LBy.lok {F B : Nat} {s : FS} {l : LS} (h : LBy F B s l.segs) : l.Ok B := by
  obtain ⟨b0, n0, m, h1, h2, h3, h4, h5⟩ := h.ch
  refine ⟨by rw [h5]; intro e; have := congrArg List.length e; rw [chainL_len] at this; simp at this; omega, by rw [h5, chainL_len]; exact h4, fun x hx => ?_⟩
  rw [h5] at hx
  obtain ⟨i, _, rfl⟩ := chainL_mem hx
  exact Nat.mod_lt _ (by omega)
theorem newest_chain {l : LS} {B b0 n0 m : Nat} (h : l.segs = chainL B b0 n0 (m + 1)) : l.newest = ((b0 + m) % B, n0 + m) := by
  unfold LS.newest
  rw [h, chainL_len, List.getD_eq_getElem?_getD, chainL_at _ _ _ _ _ (by omega)]; rfl
/-- Blocks that stand. -/
theorem pg_congr {s s' : FS} {F b : Nat} (h : ∀ k, k < 64 → s'.b[512 * (F + b) + k]? = s.b[512 * (F + b) + k]?) : s'.pg F b 0 = s.pg F b 0 := by
  apply List.ext_getElem?; intro k
  rw [pg_at, pg_at]; split
  · rename_i hk; rw [Nat.mul_zero, Nat.add_zero]; exact h k hk
  · rfl
theorem blk_congr {s s' : FS} {F b : Nat} (h : ∀ k, k < 512 → s'.b[512 * (F + b) + k]? = s.b[512 * (F + b) + k]?) : s'.blk F b = s.blk F b := by
  apply List.ext_getElem?; intro k
  rw [blk_at, blk_at]; split
  · rename_i hk; exact h k hk
  · rfl
/-- A block's bytes stand where another block's change. -/
theorem blk_far {s s' : FS} {F x b : Nat} (h : ∀ k, (k < 512 * (F + x) ∨ 512 * (F + x) + 512 ≤ k) → s'.b[k]? = s.b[k]?) (hb : b ≠ x) : s'.blk F b = s.blk F b ∧ s'.pg F b 0 = s.pg F b 0 := by
  have hk : ∀ k, k < 512 → s'.b[512 * (F + b) + k]? = s.b[512 * (F + b) + k]? := fun k hk => h _ (by
    rcases Nat.lt_or_gt_of_ne hb with h1 | h1 <;> omega)
  exact ⟨blk_congr hk, pg_congr fun k h64 => hk k (by omega)⟩
theorem lall_congr {s s' : FS} {F : Nat} {segs : List (Nat × Nat)} (h : ∀ x ∈ segs, s'.blk F x.1 = s.blk F x.1) : s'.lall F segs = s.lall F segs := by
  unfold FS.lall
  rw [List.flatMap_def, List.flatMap_def]
  congr 1
  exact List.map_congr_left fun x hx => by rw [h x hx]
theorem lall_app (s : FS) (F : Nat) (a b : List (Nat × Nat)) : s.lall F (a ++ b) = s.lall F a ++ s.lall F b := by unfold FS.lall; rw [List.flatMap_append]
/-- A record is put into the newest segment. -/
theorem LInv.put {F B : Nat} {s : FS} {l : LS} (h : LInv F B s l) {r : List UInt8} (hr : r.length ≤ 400) (hrm : pgs r.length ≤ s.lroom F l) :
    LBy F B (s.lput F B l r).1 l.segs ∧ (s.Still → (s.lput F B l r).2.2 = 0 ∧ (s.lput F B l r).1.Still) ∧ (∀ b, b ≠ l.newest.1 → (s.lput F B l r).1.blk F b = s.blk F b) ∧
    (((s.lput F B l r).2.2 = 0 ∧ (s.lput F B l r).1.dead = false ∧ (s.lput F B l r).2.1 = l ∧ (s.lput F B l r).1.lall F l.segs = s.lall F l.segs ++ [r] ∧ (s.lput F B l r).1.lroom F l = s.lroom F l - pgs r.length) ∨
     ((s.lput F B l r).2.2 = 2 ∧ (s.lput F B l r).1.dead = true ∧ ((s.lput F B l r).1.lall F l.segs = s.lall F l.segs ∨ (s.lput F B l r).1.lall F l.segs = s.lall F l.segs ++ [r]))) := by
  have hk := h.by_.lok
  have hnm := LS.newest_mem hk.ne
  have PO := lput_out (F := F) (B := B) (r := r) h.alive h.by_.ok h.by_.inn (hk.blk _ hnm) hr hrm (h.by_.gd _ hnm)
  obtain ⟨b0, n0, m, h1, h2, h3, h4, h5⟩ := h.by_.ch
  obtain ⟨m, rfl⟩ : ∃ k, m = k + 1 := ⟨m - 1, by omega⟩
  have hnw := newest_chain h5
  generalize s.lput F B l r = R at PO ⊢
  obtain ⟨ok1, n1, len1, out1, gd1, res1, st1⟩ := PO
  have hseg : l.segs = chainL B b0 n0 m ++ [l.newest] := by rw [hnw, h5, chainL_succ]
  have hne : ∀ x ∈ chainL B b0 n0 m, x.1 ≠ l.newest.1 := fun x hx e => by
    obtain ⟨i, hi, rfl⟩ := chainL_mem hx
    rw [hnw] at e
    have := mod_ne (by omega) (by omega) e
    omega
  have hfar : ∀ b, b ≠ l.newest.1 → R.1.blk F b = s.blk F b ∧ R.1.pg F b 0 = s.pg F b 0 := fun b hb => blk_far (fun k hk => out1 k (by omega)) hb
  have hpg : R.1.pg F l.newest.1 0 = s.pg F l.newest.1 0 := pg_congr fun k hk => out1 _ (by omega)
  have hpga : ∀ b, R.1.pg F b 0 = s.pg F b 0 := fun b => by
    by_cases hb : b = l.newest.1
    · rw [hb]; exact hpg
    · exact (hfar b hb).2
  have hla : R.1.lall F (chainL B b0 n0 m) = s.lall F (chainL B b0 n0 m) := lall_congr fun x hx => (hfar _ (hne x hx)).1
  have hall : ∀ t : FS, t.lall F l.segs = t.lall F (chainL B b0 n0 m) ++ recN (t.blk F l.newest.1) 7 1 := fun t => by
    rw [hseg, lall_app]; unfold FS.lall; simp
  refine ⟨⟨ok1, by rw [n1]; exact h.by_.inn, ⟨b0, n0, m + 1, h1, h2, h3, h4, h5⟩, fun x hx => by rw [hpga]; exact h.by_.hd x hx, fun b hb hx => by rw [hpga]; exact h.by_.fr b hb hx, fun x hx => ?_⟩, st1, fun b hb => (hfar b hb).1, ?_⟩
  · by_cases hb : x.1 = l.newest.1
    · rw [hb]; exact gd1
    · rw [(hfar _ hb).1]; exact h.by_.gd x hx
  · rcases res1 with ⟨a, b, c, d, e⟩ | ⟨a, b, c, d⟩
    · refine .inl ⟨a, b, c, by rw [hall, hall, hla, d, List.append_assoc], ?_⟩
      unfold FS.lroom at e ⊢
      rw [b, if_neg (by decide)]; exact e
    · refine .inr ⟨a, b, d.imp (fun d => by rw [hall, hall, hla, d]) (fun d => by rw [hall, hall, hla, d, List.append_assoc])⟩
/-- A segment is made behind the newest one. -/
theorem LInv.mk_ {F B : Nat} {s : FS} {l : LS} (h : LInv F B s l) (hfew : l.segs.length < B) (hnum : l.newest.2 + 1 < 281474976710656) (R : FS × LS × Int) (hR : R = s.lmakes F B l ((l.newest.1 + 1) % B) (l.newest.2 + 1)) :
    (s.Still → R.2.2 = 0 ∧ R.1.Still) ∧ (∀ x ∈ l.segs, x.1 ≠ (l.newest.1 + 1) % B ∧ R.1.blk F x.1 = s.blk F x.1) ∧
    ((R.2.2 = 0 ∧ R.2.1.segs = l.segs ++ [((l.newest.1 + 1) % B, l.newest.2 + 1)] ∧ LInv F B R.1 R.2.1 ∧ R.1.lall F R.2.1.segs = s.lall F l.segs ∧ R.1.lroom F R.2.1 = 7) ∨
     (R.2.2 = 2 ∧ R.1.dead = true ∧ ∃ segs', LBy F B R.1 segs' ∧ R.1.lall F segs' = s.lall F l.segs ∧ (segs' = l.segs ∨ segs' = l.segs ++ [((l.newest.1 + 1) % B, l.newest.2 + 1)]))) := by
  obtain ⟨b0, n0, m, h1, h2, h3, h4, h5⟩ := h.by_.ch
  obtain ⟨m, rfl⟩ : ∃ k, m = k + 1 := ⟨m - 1, by omega⟩
  have hnw := newest_chain h5
  have hlen : m + 1 < B := by rw [h5, chainL_len] at hfew; exact hfew
  have hb : (l.newest.1 + 1) % B = (b0 + (m + 1)) % B := by rw [hnw, Nat.mod_add_mod]; rfl
  have hn : l.newest.2 + 1 = n0 + (m + 1) := by rw [hnw]; rfl
  rw [hb, hn] at hR ⊢
  rw [hn] at hnum
  have hne : ∀ x ∈ l.segs, x.1 ≠ (b0 + (m + 1)) % B := fun x hx e => by
    rw [h5] at hx
    obtain ⟨i, hi, rfl⟩ := chainL_mem hx
    have := mod_ne (by omega) (by omega) e
    omega
  have hbB : (b0 + (m + 1)) % B < B := Nat.mod_lt _ (by omega)
  have MO := lmakes_out (l := l) (num := n0 + (m + 1)) h.alive h.by_.ok h.by_.inn hbB (h.by_.fr _ hbB hne)
  rw [← hR] at MO
  obtain ⟨ok1, n1, len1, out1, res1, st1⟩ := MO
  generalize hbn : (b0 + (m + 1)) % B = b at *
  have hfar : ∀ c, c ≠ b → R.1.blk F c = s.blk F c ∧ R.1.pg F c 0 = s.pg F c 0 := fun c hc => blk_far out1 hc
  have hla : R.1.lall F l.segs = s.lall F l.segs := lall_congr fun x hx => (hfar _ (hne x hx)).1
  have hin1 : In R.1.n.length F B := by rw [n1]; exact h.by_.inn
  have hby0 : numL (R.1.pg F b 0) = 0 → LBy F B R.1 l.segs := fun h0 => ⟨ok1, hin1, ⟨b0, n0, m + 1, h1, h2, h3, h4, h5⟩, fun x hx => by rw [(hfar _ (hne x hx)).2]; exact h.by_.hd x hx, fun c hc hx => by
    by_cases hcb : c = b
    · rw [hcb]; exact h0
    · rw [(hfar c hcb).2]; exact h.by_.fr c hc hx, fun x hx => by rw [(hfar _ (hne x hx)).1]; exact h.by_.gd x hx⟩
  have hby1 : Fresh R.1 F b (n0 + (m + 1)) → LBy F B R.1 (l.segs ++ [(b, n0 + (m + 1))]) ∧ R.1.lall F (l.segs ++ [(b, n0 + (m + 1))]) = s.lall F l.segs := fun hf => by
    obtain ⟨f1, f2, f3⟩ := hf.recs
    refine ⟨⟨ok1, hin1, ⟨b0, n0, m + 2, h1, h2, by omega, by omega, by rw [chainL_succ, ← h5, hbn]⟩, fun x hx => ?_, fun c hc hx => ?_, fun x hx => ?_⟩, ?_⟩
    · rcases List.mem_append.1 hx with hx | hx
      · rw [(hfar _ (hne x hx)).2]; exact h.by_.hd x hx
      · rw [List.mem_singleton] at hx; subst hx
        rw [hf.pg]; exact numL_first _ (by omega) hnum
    · have hcb : c ≠ b := fun e => hx (b, n0 + (m + 1)) (by simp) e.symm
      rw [(hfar c hcb).2]; exact h.by_.fr c hc fun x h' => hx x (List.mem_append_left _ h')
    · rcases List.mem_append.1 hx with hx | hx
      · rw [(hfar _ (hne x hx)).1]; exact h.by_.gd x hx
      · rw [List.mem_singleton] at hx; subst hx; exact f1
    · rw [lall_app, hla]; unfold FS.lall; simp [f2]
  refine ⟨st1, fun x hx => ⟨hne x hx, (hfar _ (hne x hx)).1⟩, ?_⟩
  rcases res1 with ⟨a, c, d, e⟩ | ⟨a, c, d, e⟩
  · obtain ⟨q1, q2⟩ := hby1 e
    refine .inl ⟨a, by rw [d], ⟨by rw [d]; exact q1, c, by rw [d]; exact h.live⟩, by rw [d]; exact q2, ?_⟩
    have hnw2 : R.2.1.newest = (b, n0 + (m + 1)) := by
      rw [d]; unfold LS.newest; dsimp only
      rw [List.length_append, List.length_singleton, Nat.add_sub_cancel, List.getD_eq_getElem?_getD, List.getElem?_append_right (Nat.le_refl _), Nat.sub_self]; rfl
    unfold FS.lroom
    rw [c, if_neg (by decide), hnw2]; exact e.recs.2.2
  · refine .inr ⟨a, c, ?_⟩
    rcases e with e | e
    · exact ⟨_, hby0 e, hla, .inl rfl⟩
    · obtain ⟨q1, q2⟩ := hby1 e
      exact ⟨_, q1, q2, .inr rfl⟩
end Go.Proofs.YtjednaendedpdaaGreat
namespace Go.Proofs.YtjednaendedpdaaGreat
set_option maxRecDepth 100000
set_option linter.unusedVariables false
open Go Go.RowKit

/-- How many blocks the laws' part has. -/
def bN (b : Int) : Nat := (max 1 (min b 12)).toNat
theorem bN_bd (b : Int) : 1 ≤ bN b ∧ bN b ≤ 12 := by unfold bN; omega
set_option maxHeartbeats 1000000 in
theorem region_any (b : Int) (w : World) : Calls Tryz.prog 9 #[.int .i64 b] w fun e w' => e = .returned (.agg #[.int .i64 1, .int .i64 (bN b : Nat)]) ∧ Below w.heap.size w w' := by
  obtain ⟨B, hB⟩ : ∃ B, B = bN b := ⟨_, rfl⟩
  have hB1 : (B : Int) = max 1 (min b 12) := by rw [hB]; unfold bN; omega
  rw [← hB]
  have HB := Box.mk hB1
  clear hB hB1
  go_enter Tryz.func9, Tryz.ntmps9
  go_wp2_with fail
  all_goals
    refine bodyPost_ret (results_cell_row (p := 2) (ty := 36) rfl _ _ w.heap.size 36 _ (0, 0) _ rfl (heap_alloc_new _ _) Tryz.underlying36 rfl (by kernel_rfl)) rfl ⟨?_, (Below.refl _ _).alloc (Nat.le_refl _) _⟩
    refine congrArg (fun x : Int => Ending.returned (Value.agg #[.int .i64 1, .int .i64 x])) ?_
    have := HB.out
    omega
theorem lover_any (p bb cb : Nat) (b : Int) (s : FS) (w : World) (hf : Fl 89 w p bb cb s) (hn : s.n.length = bN b + 1) : Calls Tryz.prog 7 #[.pointer (some ⟨p, 0, none⟩), .int .i64 b] w fun e w' => ∃ q, e = .returned (.pointer (some ⟨q, 0, none⟩)) ∧ Pa w' q p (1 : Nat) (bN b : Nat) ∧ w.heap.size ≤ q ∧ Below w.heap.size w w' := by
  have RG := Box.mk (fun w => region_any b w)
  have hbd := bN_bd b
  have hi : In s.n.length (1 : Nat) (bN b : Nat) := by rw [hn]; exact ⟨by omega, by omega, by omega, by omega⟩
  generalize bN b = B at RG hbd hi ⊢
  have PN := Box.mk (fun w h => pnew_yes p bb cb (1 : Nat) (B : Nat) s w h hi)
  have HF := Box.mk hf
  clear hf hn hi hbd
  go_enter Tryz.func7, Tryz.ntmps7
  go_wp2_with fail
  refine (RG.out _).mono ?_
  rintro e w1 ⟨rfl, hb⟩
  have F1 := Box.mk (HF.out.upd (Upd.of_below (S := []) hb) (by simp) (by simp) (by simp)); have B1 := Box.mk hb
  clear hb
  go_wp2_with fail
  refine (PN.out _ F1.out).mono ?_
  rintro e w2 ⟨q, rfl, hp, hq, hb⟩
  have P2 := Box.mk hp; have B2 := Box.mk (B1.out.trans (hb.mono B1.out.size)); have Q2 := Box.mk (Nat.le_trans B1.out.size hq)
  clear hp hq hb F1 B1
  go_wp2_with fail
  go_ret
  exact ⟨q, rfl, P2.out, Q2.out, B2.out⟩
theorem LgS.far {w w' : World} {F B : Int} {g q p bb cb : Nat} {v : Value} {s : FS} {l : LS} {S : List Nat} (h : LgS w F B g q p bb cb v s l) (hu : Upd S w w') (h1 : g ∉ S) (h2 : q ∉ S) (h3 : p ∉ S) (h4 : bb ∉ S) (h5 : cb ∉ S) (h6 : ∀ k, v.ownBlock = some k → k ∉ S) : LgS w' F B g q p bb cb v s l :=
  ⟨h.ap, h.f.upd hu h3 h4 h5, h.ok, h.pa.upd hu h2, h.i, h.lg.upd hu h1 h6⟩
/-- A clean flash of the laws. -/
def bfs (n : Nat) : FS := FS.new (List.replicate (512 * n) 255)
theorem bfs_n (n : Nat) : (bfs n).n.length = n := by unfold bfs FS.new; simp
theorem bfs_ok {n : Nat} (h : 1 ≤ n ∧ n ≤ 256) : (bfs n).Ok := FS.new_ok (by unfold sizeB; rw [decide_eq_true_iff, List.length_replicate]; omega)
theorem bfs_still (n : Nat) : (bfs n).Still := FS.new_still _
theorem bfs_at (n k : Nat) (h : k < 512 * n) : (bfs n).b[k]? = some 255 := by unfold bfs FS.new; simp [h]
/-- What laid leaves. -/
def LaidL (w : World) (B : Nat) (r : FS × LS × Int) (e : Ending) (w' : World) : Prop :=
  ∃ q p bb cb p' : Nat, ∃ kv lv : Value, e = .returned (.tuple #[.pointer (some ⟨p, 0, none⟩), lv, .pointer (some ⟨p', 0, none⟩), kv, .bool true]) ∧ Below w.heap.size w w' ∧
    (∀ k, k ∈ [q, p, bb, cb] → w.heap.size ≤ k) ∧ q ∉ [p, bb, cb] ∧ Fl 89 w' p bb cb r.1 ∧ r.1.Ok ∧
    ((r.2.2 ≠ 0 ∧ lv = .pointer none) ∨ (r.2.2 = 0 ∧ ∃ g v, lv = .pointer (some ⟨g, 0, none⟩) ∧ LgS w' (1 : Nat) (B : Nat) g q p bb cb v r.1 r.2.1 ∧ w.heap.size ≤ g ∧ ∀ k, v.ownBlock = some k → w.heap.size ≤ k))
set_option maxHeartbeats 4000000 in
theorem laidl_any (b : Int) (w : World) : Calls Tryz.prog 15 #[.int .i64 b] w (LaidL w (bN b) ((bfs (bN b + 1)).lformat 1 (bN b))) := by
  have hbd := bN_bd b
  have RG := Box.mk (fun w => region_any b w)
  have OV := Box.mk (fun p bb cb w h => lover_any p bb cb b (bfs (bN b + 1)) w h (bfs_n _))
  generalize bN b = B at hbd RG OV ⊢
  have hsz : sizeN ((B + 1 : Nat) : Int) = true := by unfold sizeN; rw [decide_eq_true_iff]; omega
  have NW := Box.mk (fun w => new_yes (B + 1) w hsz)
  have RW := Box.mk (fun w => rnew_yes (B + 1) w hsz)
  have hi : In (bfs (B + 1)).n.length (1 : Nat) (B : Nat) := by rw [bfs_n]; exact ⟨by omega, by omega, by omega, by omega⟩
  have hok : (bfs (B + 1)).Ok := bfs_ok (by omega)
  have RP := Box.mk (fun p bb cb w h => rpnew_yes p bb cb (1 : Nat) (B : Nat) (bfs (B + 1)) w h hi)
  have FM := Box.mk (fun q p bb cb w h hp hq => lformat_any q p bb cb 1 B (bfs (B + 1)) w h hok hp hi hq)
  have RF := Box.mk (fun q p bb cb w h hp hq => rlformat_any q p bb cb 1 B (bfs (B + 1)) w h hok hp hi hq)
  have hB12 : (B : Int) ≤ 12 := by omega
  rw [show ((B + 1 : Nat) : Int) = (B : Int) + 1 by omega] at NW RW
  unfold Made at NW RW
  change Box (∀ w, Calls _ _ _ w fun e w' => ∃ p bb cb, _ ∧ Fl 89 w' p bb cb (bfs (B + 1)) ∧ _) at NW
  change Box (∀ w, Calls _ _ _ w fun e w' => ∃ p bb cb, _ ∧ Fl 66 w' p bb cb (bfs (B + 1)) ∧ _) at RW
  generalize (bfs (B + 1)).lformat 1 B = R at FM RF ⊢
  obtain ⟨r1, r2, r3⟩ := R
  generalize bfs (B + 1) = F0 at NW RW RP FM RF OV
  clear hsz hi hok hbd
  go_enter Tryz.func15, Tryz.ntmps15
  go_wp2_with fail
  refine (RG.out _).mono ?_
  rintro e w1 ⟨rfl, hb⟩
  obtain ⟨z, hz⟩ : ∃ z, z = w1.heap.size := ⟨_, rfl⟩
  go_upto_region 2 with (fail)
  obtain ⟨W1, hW1⟩ : ∃ W, W = w1.alloc (.cells #[.int .i64 1, .int .i64 (B : Nat)] 36) := ⟨_, rfl⟩
  rw [← hW1, ← hz]
  have Z1 := Box.mk (show W1.heap[z]? = some (.cells #[.int .i64 1, .int .i64 (B : Nat)] 36 (0, 0)) by rw [hW1, hz]; exact heap_alloc_new _ _)
  have B1 := Box.mk (show Below w.heap.size w W1 by rw [hW1]; exact hb.alloc hb.size _)
  clear hb hz hW1
  have c1 : W1.cell? ⟨z, 1, none⟩ = some (.int .i64 (B : Nat)) := (cell_of_row _ _ _ _ _ _ Z1.out).trans rfl
  go_wp2_with fail
  refine (NW.out _).mono ?_
  rintro e w2 ⟨p, bb, cb, rfl, hf, hp, hbb, hcb, hb⟩
  have F2 := Box.mk hf; have B2 := Box.mk (B1.out.trans (hb.mono B1.out.size)); have L2 : Box (w.heap.size ≤ p ∧ w.heap.size ≤ bb ∧ w.heap.size ≤ cb) := ⟨by have := B1.out.size; omega⟩
  have Z2 := Box.mk ((hb.block z (Array.getElem?_eq_some_iff.1 Z1.out).1).trans Z1.out)
  clear hf hp hbb hcb hb c1 Z1 B1 NW
  have c1 : w2.cell? ⟨z, 1, none⟩ = some (.int .i64 (B : Nat)) := (cell_of_row _ _ _ _ _ _ Z2.out).trans rfl
  go_wp2_with fail
  refine (RW.out _).mono ?_
  rintro e w3 ⟨p', bb', cb', rfl, hf, hp, hbb, hcb, hb⟩
  have hl2 := F2.out.lt; have hz2 := B2.out.size
  have F3 := Box.mk (F2.out.upd (Upd.of_below (S := []) hb) (by simp) (by simp) (by simp)); have G3 := Box.mk hf; have B3 := Box.mk (B2.out.trans (hb.mono B2.out.size))
  have N3 : Box ((p < p' ∧ p < bb' ∧ p < cb') ∧ (bb < p' ∧ bb < bb' ∧ bb < cb') ∧ (cb < p' ∧ cb < bb' ∧ cb < cb')) := ⟨by omega⟩
  have L3 : Box (w.heap.size ≤ p' ∧ w.heap.size ≤ bb' ∧ w.heap.size ≤ cb') := ⟨by omega⟩
  have Z3 := Box.mk ((hb.block z (Array.getElem?_eq_some_iff.1 Z2.out).1).trans Z2.out)
  clear hf hp hbb hcb hb c1 Z2 B2 F2 RW hl2 hz2
  go_wp2_with fail
  refine (OV.out p bb cb _ F3.out).mono ?_
  rintro e w4 ⟨q, rfl, hp, hq, hb⟩
  have hl3 := F3.out.lt; have hl4 := G3.out.lt
  have F4 := Box.mk (F3.out.upd (Upd.of_below (S := []) hb) (by simp) (by simp) (by simp)); have G4 := Box.mk (G3.out.upd (Upd.of_below (S := []) hb) (by simp) (by simp) (by simp)); have P4 := Box.mk hp; have B4 := Box.mk (B3.out.trans (hb.mono B3.out.size))
  have N4 : Box (q ∉ [p, bb, cb] ∧ p' < q ∧ bb' < q ∧ cb' < q ∧ w.heap.size ≤ q) := ⟨by have := B3.out.size; simp only [List.mem_cons, List.not_mem_nil, or_false, not_or]; omega⟩
  have Z4 := Box.mk ((hb.block z (Array.getElem?_eq_some_iff.1 Z3.out).1).trans Z3.out)
  clear hp hq hb Z3 B3 F3 G3 OV hl3 hl4
  have z0 : w4.cell? ⟨z, 0, none⟩ = some (.int .i64 1) := (cell_of_row _ _ _ _ _ _ Z4.out).trans rfl
  have z1 : w4.cell? ⟨z, 1, none⟩ = some (.int .i64 (B : Nat)) := (cell_of_row _ _ _ _ _ _ Z4.out).trans rfl
  go_wp2_with fail
  refine (RP.out p' bb' cb' _ G4.out).mono ?_
  rintro e w5 ⟨q', rfl, hp, hq, hb⟩
  have hl4 := G4.out.lt
  have F5 := Box.mk (F4.out.upd (Upd.of_below (S := []) hb) (by simp) (by simp) (by simp)); have G5 := Box.mk (G4.out.upd (Upd.of_below (S := []) hb) (by simp) (by simp) (by simp)); have P5 := Box.mk (P4.out.upd (Upd.of_below (S := []) hb) (by simp)); have RP5 := Box.mk hp; have B5 := Box.mk (B4.out.trans (hb.mono B4.out.size))
  have N5 : Box (q' ∉ [p', bb', cb'] ∧ w.heap.size ≤ q') := ⟨by have := B4.out.size; simp only [List.mem_cons, List.not_mem_nil, or_false, not_or]; omega⟩
  have N6 : Box (∀ k ∈ [q', p', bb', cb'], k ∉ [q, p, bb, cb]) := ⟨by
    have h3 := N3.out; have h4 := N4.out; have h5 := F4.out.lt; have h6 := P4.out.lt
    intro k hk
    simp only [List.mem_cons, List.not_mem_nil, or_false, not_or] at hk ⊢; omega⟩
  clear hp hq hb Z4 B4 F4 G4 P4 z0 z1 RP hl4
  go_wp2_with fail
  refine (FM.out q p bb cb _ F5.out P5.out N4.out.1).mono ?_
  rintro e w6 hfm
  unfold LFmt at hfm
  dsimp only at hfm
  obtain ⟨hf6, hok6, hu6, hcase⟩ := hfm
  have nm6 : ∀ k ∈ [q', p', bb', cb'], k ∉ [p, bb, cb] := fun k hk hm => N6.out k hk (List.mem_cons_of_mem _ hm)
  have F6 := Box.mk hf6; have OK6 := Box.mk hok6
  have G6 := Box.mk (G5.out.upd hu6 (nm6 _ (by simp)) (nm6 _ (by simp)) (nm6 _ (by simp))); have RP6 := Box.mk (RP5.out.upd hu6 (nm6 _ (by simp)))
  have U6 := Box.mk (show Below w.heap.size w w6 from Upd.below B5.out hu6 (fun i hi => by have := L2.out; simp only [List.mem_cons, List.not_mem_nil, or_false] at hi; omega) B5.out.size)
  have RFX := Box.mk (RF.out q' p' bb' cb' w6 G6.out RP6.out N5.out.1)
  have LO : Box (∀ k, k ∈ [q, p, bb, cb] → w.heap.size ≤ k) := ⟨by have h2 := L2.out; have h4 := N4.out; intro k hk; simp only [List.mem_cons, List.not_mem_nil, or_false] at hk; omega⟩
  have NQ := Box.mk N4.out.1
  have FAR : Box (∀ k ∈ [q, p, bb, cb], k ∉ [p', bb', cb']) := ⟨fun k hk hm => N6.out k (List.mem_cons_of_mem _ hm) hk⟩
  have G5L := Box.mk G5.out.lt; have W5L := Box.mk B5.out.size
  clear nm6 hu6 hf6 hok6 FM RF F5 G5 P5 RP5 B5 RG N4 N5 L2
  rcases hcase with ⟨hr, rfl⟩ | ⟨hr, g, v, rfl, hl, hg, hv⟩
  · have HR := Box.mk hr
    clear hr
    go_wp2_with fail
    refine RFX.out.mono ?_
    rintro e w7 ⟨hu7, hc7⟩
    rcases hc7 with ⟨hr7, rfl⟩ | ⟨hr7, _⟩
    · have F7 := Box.mk (F6.out.upd hu7 (FAR.out _ (by simp)) (FAR.out _ (by simp)) (FAR.out _ (by simp)))
      have U7 := Box.mk (show Below w.heap.size w w7 from Upd.below U6.out hu7 (fun i hi => by have := L3.out; simp only [List.mem_cons, List.not_mem_nil, or_false] at hi; omega) U6.out.size)
      clear hu7 hr7
      go_wp2_with fail
      refine bodyPost_ret (v := .tuple #[.pointer (some ⟨p, 0, none⟩), .pointer none, .pointer (some ⟨p', 0, none⟩), .pointer none, .bool true]) (by simp [results, Tryz.results15, go_sem]) rfl ?_
      exact ⟨q, p, bb, cb, p', _, _, rfl, U7.out, LO.out, NQ.out, F7.out, OK6.out, .inl ⟨HR.out, rfl⟩⟩
    · exact absurd hr7 HR.out
  · have HR := Box.mk hr
    subst hr
    go_wp2_with fail
    refine RFX.out.mono ?_
    rintro e w7 ⟨hu7, hc7⟩
    rcases hc7 with ⟨hr7, rfl⟩ | ⟨_, g', rfl⟩
    · exact absurd rfl hr7
    · have F7 := Box.mk (F6.out.upd hu7 (FAR.out _ (by simp)) (FAR.out _ (by simp)) (FAR.out _ (by simp)))
      have U7 := Box.mk (show Below w.heap.size w w7 from Upd.below U6.out hu7 (fun i hi => by have := L3.out; simp only [List.mem_cons, List.not_mem_nil, or_false] at hi; omega) U6.out.size)
      have far5 : ∀ k, w5.heap.size ≤ k → k ∉ [p', bb', cb'] := fun k hk hm => by
        have := G5L.out
        simp only [List.mem_cons, List.not_mem_nil, or_false] at hm; omega
      have H7 := Box.mk (hl.far hu7 (far5 g hg) (FAR.out _ (by simp)) (FAR.out _ (by simp)) (FAR.out _ (by simp)) (FAR.out _ (by simp)) (fun k hk => far5 k (hv k hk)))
      have HG := Box.mk (Nat.le_trans W5L.out hg); have HV : Box (∀ k, v.ownBlock = some k → w.heap.size ≤ k) := ⟨fun k hk => Nat.le_trans W5L.out (hv k hk)⟩
      clear hu7 hl hg hv far5
      go_wp2_with fail
      refine bodyPost_ret (v := .tuple #[.pointer (some ⟨p, 0, none⟩), .pointer (some ⟨g, 0, none⟩), .pointer (some ⟨p', 0, none⟩), .pointer (some ⟨g', 0, none⟩), .bool true]) (by simp [results, Tryz.results15, go_sem]) rfl ?_
      exact ⟨q, p, bb, cb, p', _, _, rfl, U7.out, LO.out, NQ.out, F7.out, OK6.out, .inr ⟨rfl, g, v, rfl, H7.out, HG.out, HV.out⟩⟩
end Go.Proofs.YtjednaendedpdaaGreat
namespace Go.Proofs.YtjednaendedpdaaGreat
set_option maxRecDepth 100000
set_option linter.unusedVariables false
open Go Go.RowKit

/-- A segment at an end is dropped. -/
theorem LInv.drop {F B : Nat} {s : FS} {l : LS} (h : LInv F B s l) (i : Nat) (hi : i = 0 ∨ i + 1 = l.segs.length) (hl : l.segs.length ≠ 1) (R : FS × LS × Int) (hR : R = s.ldrop F B l i) :
    (s.Still → R.2.2 = 0 ∧ R.1.Still) ∧
    ((R.2.2 = 0 ∧ R.2.1.segs = l.segs.eraseIdx i ∧ LInv F B R.1 R.2.1 ∧ R.1.lall F (l.segs.eraseIdx i) = s.lall F (l.segs.eraseIdx i)) ∨
     (R.2.2 = 2 ∧ R.1.dead = true ∧ ∃ segs', LBy F B R.1 segs' ∧ R.1.lall F segs' = s.lall F segs' ∧ (segs' = l.segs ∨ segs' = l.segs.eraseIdx i))) := by
  obtain ⟨b0, n0, m, h1, h2, h3, h4, h5⟩ := h.by_.ch
  have hlen : l.segs.length = m := by rw [h5, chainL_len]
  obtain ⟨m, rfl⟩ : ∃ k, m = k + 2 := ⟨m - 2, by omega⟩
  have him : i < m + 2 := by omega
  have hx : l.segs.getD i (0, 0) = ((b0 + i) % B, n0 + i) := by rw [h5, List.getD_eq_getElem?_getD, chainL_at _ _ _ _ _ him]; rfl
  have hxB : (b0 + i) % B < B := Nat.mod_lt _ (by omega)
  unfold FS.ldrop at hR
  rw [if_neg hl, h.live, if_neg (by decide), hx, perase_one h.alive h.by_.inn hxB] at hR
  dsimp only at hR
  obtain ⟨ok1, n1, len1⟩ := er_ok h.by_.ok (F + (b0 + i) % B)
  have hin1 : In (s.er (F + (b0 + i) % B)).n.length F B := by rw [n1]; exact h.by_.inn
  have hout := er_out s (F + (b0 + i) % B)
  have hpg := er_page s F ((b0 + i) % B)
  have hdd := er_dead h.alive (F + (b0 + i) % B)
  have hmem : ((b0 + i) % B, n0 + i) ∈ l.segs := by rw [h5]; exact chainL_in him
  -- what is left
  have hch : ∃ b1 n1, b1 < B ∧ 1 ≤ n1 ∧ l.segs.eraseIdx i = chainL B b1 n1 (m + 1) := by
    rcases hi with rfl | hi
    · exact ⟨(b0 + 1) % B, n0 + 1, Nat.mod_lt _ (by omega), by omega, by rw [h5]; exact chainL_tail _ _ _ _ (by omega)⟩
    · have : i = m + 1 := by omega
      subst this
      exact ⟨b0, n0, h1, h2, by rw [h5]; exact chainL_init _ _ _ _⟩
  have hsub : ∀ x ∈ l.segs.eraseIdx i, x ∈ l.segs ∧ x.1 ≠ (b0 + i) % B := fun x hx => by
    refine ⟨List.mem_of_mem_eraseIdx hx, fun e => ?_⟩
    rw [List.mem_eraseIdx_iff_getElem?] at hx
    obtain ⟨j, hj, hj2⟩ := hx
    have hjl := (List.getElem?_eq_some_iff.1 hj2).1
    rw [hlen] at hjl
    rw [h5, chainL_at _ _ _ _ _ hjl] at hj2
    cases hj2
    exact hj (mod_ne (by omega) (by omega) e)
  have hrest : ∀ c, c < B → (∀ x ∈ l.segs.eraseIdx i, x.1 ≠ c) → c ≠ (b0 + i) % B → ∀ x ∈ l.segs, x.1 ≠ c := fun c _ hx hc x hm e => by
    by_cases hxe : x = ((b0 + i) % B, n0 + i)
    · rw [hxe] at e; exact hc e.symm
    · refine hx x ?_ e
      rw [List.mem_eraseIdx_iff_getElem?]
      obtain ⟨j, hj, hj2⟩ := List.mem_iff_getElem.1 hm
      refine ⟨j, fun hji => ?_, by rw [List.getElem?_eq_getElem hj, hj2]⟩
      subst hji
      apply hxe
      have := List.getElem?_eq_getElem hj
      rw [hj2] at this
      rw [h5, chainL_at _ _ _ _ _ him] at this
      exact (Option.some.inj this).symm
  have hfar : ∀ c, c ≠ (b0 + i) % B → (s.er (F + (b0 + i) % B)).blk F c = s.blk F c ∧ (s.er (F + (b0 + i) % B)).pg F c 0 = s.pg F c 0 := fun c hc => blk_far hout hc
  have hgone : numL ((s.er (F + (b0 + i) % B)).pg F ((b0 + i) % B) 0) = 0 → LBy F B (s.er (F + (b0 + i) % B)) (l.segs.eraseIdx i) ∧ (s.er (F + (b0 + i) % B)).lall F (l.segs.eraseIdx i) = s.lall F (l.segs.eraseIdx i) := fun h0 => by
    obtain ⟨b1, n1', q1, q2, q3⟩ := hch
    refine ⟨⟨ok1, hin1, ⟨b1, n1', m + 1, q1, q2, by omega, by omega, q3⟩, fun x hx => ?_, fun c hc hx => ?_, fun x hx => ?_⟩, lall_congr fun x hx => (hfar _ (hsub x hx).2).1⟩
    · rw [(hfar _ (hsub x hx).2).2]; exact h.by_.hd x (hsub x hx).1
    · by_cases hcb : c = (b0 + i) % B
      · rw [hcb]; exact h0
      · rw [(hfar c hcb).2]; exact h.by_.fr c hc (hrest c hc hx hcb)
    · rw [(hfar _ (hsub x hx).2).1]; exact h.by_.gd x (hsub x hx).1
  have hsame : (∀ pg, s.ex pg = 0) → LBy F B (s.er (F + (b0 + i) % B)) l.segs ∧ (s.er (F + (b0 + i) % B)).lall F l.segs = s.lall F l.segs := fun h0 => by
    have hb : ∀ k, (s.er (F + (b0 + i) % B)).b[k]? = s.b[k]? := fun k => by
      rw [er_at]
      cases s.b[k]? with
      | none => rfl
      | some u => rw [Option.map_some, h0]; split <;> simp
    have hbk : ∀ c, (s.er (F + (b0 + i) % B)).blk F c = s.blk F c := fun c => blk_congr fun k _ => hb _
    have hpk : ∀ c, (s.er (F + (b0 + i) % B)).pg F c 0 = s.pg F c 0 := fun c => pg_congr fun k _ => hb _
    exact ⟨⟨ok1, hin1, ⟨b0, n0, m + 2, h1, h2, h3, h4, h5⟩, fun x hx => by rw [hpk]; exact h.by_.hd x hx, fun c hc hx => by rw [hpk]; exact h.by_.fr c hc hx, fun x hx => by rw [hbk]; exact h.by_.gd x hx⟩, lall_congr fun x _ => hbk _⟩
  cases hg : s.goes with
  | true =>
    rw [hg, toldI_t, if_pos (by decide)] at hR
    subst hR
    refine ⟨fun hs => absurd hg (by rw [goes_still hs]; decide), .inr ⟨rfl, hdd.trans hg, ?_⟩⟩
    by_cases h0 : s.ex 0 = 0
    · obtain ⟨q1, q2⟩ := hsame (ex_zero h.by_.ok h0)
      exact ⟨_, q1, q2, .inl rfl⟩
    · obtain ⟨q1, q2⟩ := hgone (by rw [hpg]; exact numL_or _ _ h0)
      exact ⟨_, q1, q2, .inr rfl⟩
  | false =>
    rw [hg, toldI_f, if_neg (by decide)] at hR
    subst hR
    obtain ⟨q1, q2⟩ := hgone (by rw [hpg]; exact numL_or _ _ (by rw [ex_go hg]; decide))
    refine ⟨fun hs => ⟨rfl, er_still hs _⟩, .inl ⟨rfl, rfl, ⟨q1, hdd.trans hg, ?_⟩, q2⟩⟩
    show (l.told 0).dead = false
    rw [told0]; exact h.live
theorem nwst_spec (nums : List Nat) : ∀ k, (∀ j, j < k → nums.getD j 0 ≤ nums.getD (nwst nums k) 0) ∧ (0 < k → nwst nums k < k)
  | 0 => ⟨fun j hj => by omega, fun h => by omega⟩
  | k + 1 => by
    obtain ⟨h1, h2⟩ := nwst_spec nums k
    rw [nwst]
    by_cases h : nums.getD k 0 > nums.getD (nwst nums k) 0
    · rw [if_pos h]
      refine ⟨fun j hj => ?_, fun _ => by omega⟩
      rcases Nat.lt_succ_iff_lt_or_eq.1 hj with h' | rfl
      · have := h1 j h'; omega
      · omega
    · rw [if_neg h]
      refine ⟨fun j hj => ?_, fun _ => ?_⟩
      · rcases Nat.lt_succ_iff_lt_or_eq.1 hj with h' | rfl
        · exact h1 j h'
        · omega
      · rcases Nat.eq_zero_or_pos k with rfl | hk
        · simp [nwst]
        · have := h2 hk; omega
theorem nums_at (s : FS) (F B b : Nat) (h : b < B) : (s.nums F B).getD b 0 = numL (s.pg F b 0) := by
  unfold FS.nums; rw [List.getD_eq_getElem?_getD, List.getElem?_map, List.getElem?_range h]; rfl
/-- What is opened is what was there. -/
theorem LBy.open_ {F B : Nat} {s : FS} {segs : List (Nat × Nat)} (h : LBy F B s segs) (hB : 4 ≤ B) (hd : s.dead = false) (hmax : ∀ x ∈ segs, x.2 ≤ 140737488355328) : s.lopen F B = .ok segs := by
  obtain ⟨b0, n0, m, h1, h2, h3, h4, h5⟩ := h.ch
  obtain ⟨m, rfl⟩ : ∃ k, m = k + 1 := ⟨m - 1, by omega⟩
  have hin : ∀ i, i < m + 1 → (s.nums F B).getD ((b0 + i) % B) 0 = n0 + i := fun i hi => by
    rw [nums_at _ _ _ _ (Nat.mod_lt _ (by omega))]
    exact h.hd ((b0 + i) % B, n0 + i) (by rw [h5]; exact chainL_in hi)
  have hcase : ∀ b, b < B → (∃ i, i < m + 1 ∧ b = (b0 + i) % B) ∨ (s.nums F B).getD b 0 = 0 := fun b hb => by
    by_cases hx : ∀ x ∈ segs, x.1 ≠ b
    · exact .inr (by rw [nums_at _ _ _ _ hb]; exact h.fr b hb hx)
    · simp only [Classical.not_forall, Classical.not_not] at hx
      obtain ⟨x, hx, e⟩ := hx
      rw [h5] at hx
      obtain ⟨i, hi, rfl⟩ := chainL_mem hx
      exact .inl ⟨i, hi, e.symm⟩
  have hlen : (s.nums F B).length = B := by simp [FS.nums]
  have hmx := hmax ((b0 + m) % B, n0 + m) (by rw [h5]; exact chainL_in (by omega))
  dsimp only at hmx
  unfold FS.lopen
  rw [if_neg (by omega), hd, if_neg (by decide)]
  dsimp only
  generalize s.nums F B = nums at hin hcase hlen ⊢
  obtain ⟨w1, w2⟩ := nwst_spec nums B
  have hnw : nwst nums B = (b0 + m) % B := by
    have ha := w1 ((b0 + m) % B) (Nat.mod_lt _ (by omega))
    rw [hin m (by omega)] at ha
    rcases hcase (nwst nums B) (w2 (by omega)) with ⟨i, hi, e⟩ | e
    · rw [e, hin i hi] at ha
      rw [e]; congr 1; omega
    · omega
  have hmost : nums.getD ((b0 + m) % B) 0 = n0 + m := hin m (by omega)
  have hback : ∀ k, k ≤ m → ((b0 + m) % B + B - k) % B = (b0 + (m - k)) % B := fun k hk => by
    rw [show (b0 + m) % B + B - k = (b0 + m) % B + (B - k) by omega, Nat.mod_add_mod, show b0 + m + (B - k) = b0 + (m - k) + B by omega, Nat.add_mod_right]
  have hT : runB (backP nums ((b0 + m) % B)) B = m + 1 := by
    refine runB_spec B _ (m + 1) h4 (fun j hj => ?_) ?_
    · unfold backP
      rw [hmost, hlen, hback j (by omega), hin (m - j) (by omega), Bool.and_eq_true, decide_eq_true_iff, decide_eq_true_iff]
      omega
    · by_cases hmB : m + 1 = B
      · exact .inl hmB
      · refine .inr ?_
        unfold backP
        rw [hmost, hlen, Bool.and_eq_false_iff, decide_eq_false_iff_not, decide_eq_false_iff_not]
        by_cases hn : n0 = 1
        · left; omega
        · right
          rcases hcase (((b0 + m) % B + B - (m + 1)) % B) (Nat.mod_lt _ (by omega)) with ⟨i, hi, e⟩ | e
          · exfalso
            have e2 : ((b0 + m) % B + B - (m + 1)) % B = (b0 + (B - 1)) % B := by
              rw [show (b0 + m) % B + B - (m + 1) = (b0 + m) % B + (B - (m + 1)) by omega, Nat.mod_add_mod, show b0 + m + (B - (m + 1)) = b0 + (B - 1) by omega]
            rw [e2] at e
            have := mod_ne (by omega) (by omega) e
            omega
          · rw [e]; omega
  have hs : segsOf nums ((b0 + m) % B) = segs := by
    unfold segsOf
    rw [hlen, hT, hmost, h5]
    apply List.ext_getElem?; intro i
    by_cases hi : i < m + 1
    · rw [chainL_at _ _ _ _ _ hi, List.getElem?_reverse (by simpa using hi)]
      simp only [List.length_map, List.length_range]
      rw [List.getElem?_map, List.getElem?_range (by omega), Option.map_some, hback _ (by omega), show m - (m + 1 - 1 - i) = i by omega, show n0 + m - (m + 1 - 1 - i) = n0 + i by omega]
    · rw [List.getElem?_eq_none (by simp; omega), List.getElem?_eq_none (by rw [chainL_len]; omega)]
  rw [hnw, hmost, if_neg (by omega), hs]
/-- A segment's records. -/
theorem LInv.recs {F B : Nat} {s : FS} {l : LS} (h : LInv F B s l) (x : Nat × Nat) (hx : x ∈ l.segs) : s.lrecs F l x.2 = .ok (recN (s.blk F x.1) 7 1) := by
  obtain ⟨b0, n0, m, h1, h2, h3, h4, h5⟩ := h.by_.ch
  have hf : l.segs.find? (fun y => (y.2 : Int) == (x.2 : Int)) = some x := by
    have hsome : (l.segs.find? (fun y => (y.2 : Int) == (x.2 : Int))).isSome = true := by
      rw [List.find?_isSome]; exact ⟨x, hx, by simp⟩
    obtain ⟨y, hy⟩ := Option.isSome_iff_exists.1 hsome
    have hym := List.mem_of_find?_eq_some hy
    have hyp := List.find?_some hy
    rw [hy]
    rw [h5] at hx hym
    obtain ⟨i, _, rfl⟩ := chainL_mem hx
    obtain ⟨j, _, rfl⟩ := chainL_mem hym
    have : j = i := by
      rw [beq_iff_eq] at hyp; dsimp only at hyp; omega
    rw [this]
  unfold FS.lrecs
  rw [hf]
  dsimp only
  rw [h.live, h.alive, Bool.or_self, if_neg (by decide), recsL_good (h.by_.gd x hx)]
theorem lclean_er {s : FS} {l : LS} {F B b : Nat} (hd : s.dead = false) (hok : s.Ok) (hin : In s.n.length F B) (hb : b < B) (he : Er s.b (512 * (F + b)) 512) : s.lclean F B l b = (s, l, 0) := by
  have hhi := hin.hi
  have hlen := hok.len
  have hpv : pcleanV s F B ((512 * b : Nat) : Int) 512 = (((ffs ⟨(s.blk F b).toArray⟩ : Nat) : Int) == ((s.blk F b).length : Nat), 0) := by
    have hin2 : inB (B : Int) ((512 * b : Nat) : Int) 512 = true := by rw [inB_iff]; omega
    unfold pcleanV preadV
    rw [if_pos hin2, hd]
    simp only [Bool.false_eq_true, if_false, if_true]
    rw [show (512 * (F : Int) + ((512 * b : Nat) : Int)).toNat = 512 * (F + b) by omega]
    unfold FS.blk; rfl
  have hbl := blk_len hok (F := F) (x := b) (by omega)
  have hf : (((ffs ⟨(s.blk F b).toArray⟩ : Nat) : Int) == ((s.blk F b).length : Nat)) = true := by
    rw [beq_iff_eq, ffs_all _ fun k hk => by rw [blk_at, if_pos (by omega)]; exact he _ (by omega) (by omega)]
  unfold FS.lclean FS.wclean
  rw [hpv, hf]
  dsimp only
  rw [if_neg (by decide), if_pos rfl, told0]
/-- A log on a clean flash. -/
theorem lformat_inv {B : Nat} (hB : 4 ≤ B) (hB2 : B ≤ 12) : ∃ s1, (bfs (B + 1)).lformat 1 B = (s1, ⟨[(0, 1)], false⟩, 0) ∧ s1.Still ∧ LInv 1 B s1 ⟨[(0, 1)], false⟩ ∧ s1.lall 1 [(0, 1)] = [] ∧ s1.lroom 1 ⟨[(0, 1)], false⟩ = 7 := by
  have hok := bfs_ok (n := B + 1) (by omega)
  have hst := bfs_still (B + 1)
  have hin : In (bfs (B + 1)).n.length (1 : Nat) (B : Nat) := by rw [bfs_n]; exact ⟨by omega, by omega, by omega, by omega⟩
  have hat := fun k h => bfs_at (B + 1) k h
  generalize bfs (B + 1) = s at hok hst hin hat
  have hcl : ∀ k, k ≤ B → FS.lcleans s (1 : Nat) (B : Nat) ⟨[], false⟩ k = (s, ⟨[], false⟩, 0) := by
    intro k
    induction k with
    | zero => intro _; rfl
    | succ k ih =>
      intro hk
      rw [FS.lcleans, ih (by omega), if_neg (fun h => h rfl)]
      exact lclean_er hst.dead hok hin (by omega) (fun j h1 h2 => hat j (by omega))
  have hnum0 : ∀ b, b < B → numL (s.pg 1 b 0) = 0 := fun b hb => numL_no (by rw [pg_at, if_pos (by omega), hat _ (by omega)]; simp)
  have MO := lmakes_out (s := s) (l := ⟨[], false⟩) (F := 1) (B := B) (b := 0) (num := 1) hst.dead hok hin (by omega) (hnum0 0 (by omega))
  unfold FS.lformat
  rw [if_neg (by omega), hcl B (Nat.le_refl _)]
  dsimp only
  rw [if_neg (by decide)]
  generalize s.lmakes (1 : Nat) (B : Nat) ⟨[], false⟩ 0 1 = R at MO ⊢
  obtain ⟨s1, l1, e1⟩ := R
  obtain ⟨ok1, n1, len1, out1, res1, st1⟩ := MO
  dsimp only at ok1 n1 len1 out1 res1 st1
  obtain ⟨he, hst1⟩ := st1 hst
  rcases res1 with ⟨_, hd1, hl1, hf⟩ | ⟨h2, _⟩
  · obtain ⟨f1, f2, f3⟩ := hf.recs
    subst he
    subst hl1
    refine ⟨s1, rfl, hst1, ⟨⟨ok1, by rw [n1]; exact hin, ⟨0, 1, 1, by omega, Nat.le_refl _, Nat.le_refl _, by omega, ?_⟩, fun x hx => ?_, fun b hb hx => ?_, fun x hx => ?_⟩, hd1, rfl⟩, ?_, ?_⟩
    · show [(0, 1)] = [((0 + 0) % B, 1 + 0)]
      rw [Nat.zero_add, Nat.zero_mod]
    · simp at hx; subst hx; rw [hf.pg]; exact numL_first 1 (Nat.le_refl _) (by omega)
    · have hb0 : b ≠ 0 := fun e => hx (0, 1) (by simp) e.symm
      rw [(blk_far out1 hb0).2]; exact hnum0 b hb
    · simp at hx; subst hx; exact f1
    · unfold FS.lall; simp [f2]
    · unfold FS.lroom LS.newest
      rw [hd1, if_neg (by decide)]; exact f3
  · rw [he] at h2; cases h2
/-- The segment behind the newest one. -/
def LS.next (l : LS) (B : Nat) : Nat × Nat := ((l.newest.1 + 1) % B, l.newest.2 + 1)
/-- What Append does. -/
structure AppOut (F B : Nat) (s : FS) (l : LS) (r : List UInt8) (spare : Int) (R : FS × LS × Int) : Prop where
  neg : spare < 0 → R = (s, l, 1)
  long : 0 ≤ spare → 400 < r.length → R = (s, l, 141)
  full : 0 ≤ spare → r.length ≤ 400 → s.lroom F l < pgs r.length → ((B - l.segs.length : Nat) : Int) ≤ spare → R = (s, l, 142)
  goes : 0 ≤ spare → r.length ≤ 400 → ¬ (s.lroom F l < pgs r.length ∧ ((B - l.segs.length : Nat) : Int) ≤ spare) → (s.Still → R.2.2 = 0 ∧ R.1.Still) ∧
    ((R.2.2 = 0 ∧ LInv F B R.1 R.2.1 ∧ R.1.lall F R.2.1.segs = s.lall F l.segs ++ [r] ∧ R.1.lroom F R.2.1 = (if s.lroom F l < pgs r.length then 7 else s.lroom F l) - pgs r.length ∧
        R.2.1.segs = (if s.lroom F l < pgs r.length then l.segs ++ [l.next B] else l.segs) ∧ (s.lroom F l < pgs r.length → l.segs.length < B ∧ ∀ x ∈ l.segs, R.1.blk F x.1 = s.blk F x.1)) ∨
     (R.2.2 = 2 ∧ R.1.dead = true ∧ ∃ segs', LBy F B R.1 segs' ∧ (R.1.lall F segs' = s.lall F l.segs ∨ R.1.lall F segs' = s.lall F l.segs ++ [r]) ∧ (segs' = l.segs ∨ segs' = l.segs ++ [l.next B])))
theorem LInv.append {F B : Nat} {s : FS} {l : LS} (h : LInv F B s l) (hnum : l.newest.2 + 1 < 281474976710656) (r : List UInt8) (spare : Int) : AppOut F B s l r spare (s.lappend F B l r spare) := by
  refine ⟨fun h0 => ?_, fun h0 h1 => ?_, fun h0 h1 h2 h3 => ?_, fun h0 h1 h2 => ?_⟩
  · unfold FS.lappend; rw [if_pos h0]
  · unfold FS.lappend; rw [if_neg (by omega), if_pos h1]
  · unfold FS.lappend; rw [if_neg (by omega), if_neg (by omega), h.live, if_neg (by decide), h.alive, if_neg (by decide), if_pos h2, if_pos h3]
  · have e : s.lappend F B l r spare = if pgs r.length > s.lroom F l then (if (s.lmakes F B l ((l.newest.1 + 1) % B) (l.newest.2 + 1)).2.2 ≠ 0 then s.lmakes F B l ((l.newest.1 + 1) % B) (l.newest.2 + 1) else (s.lmakes F B l ((l.newest.1 + 1) % B) (l.newest.2 + 1)).1.lput F B (s.lmakes F B l ((l.newest.1 + 1) % B) (l.newest.2 + 1)).2.1 r) else s.lput F B l r := by
      unfold FS.lappend
      rw [if_neg (by omega), if_neg (by omega), h.live, if_neg (by decide), h.alive, if_neg (by decide)]
      by_cases hp : pgs r.length > s.lroom F l
      · rw [if_pos hp, if_pos hp, if_neg (fun h3 => h2 ⟨hp, h3⟩)]
      · rw [if_neg hp, if_neg hp]
    rw [e]
    clear e
    by_cases hp : s.lroom F l < pgs r.length
    · rw [if_pos hp, if_pos hp, if_pos hp]
      have hfew : l.segs.length < B := by
        have := h.by_.lok.few
        have h3 : ¬ ((B - l.segs.length : Nat) : Int) ≤ spare := fun h3 => h2 ⟨hp, h3⟩
        omega
      obtain ⟨k1, k2, k3⟩ := h.mk_ hfew hnum _ rfl
      generalize s.lmakes F B l ((l.newest.1 + 1) % B) (l.newest.2 + 1) = M at k1 k2 k3 ⊢
      rcases k3 with ⟨a, b, c, d, f⟩ | ⟨a, b, c⟩
      · rw [if_neg (by rw [a]; simp)]
        have hnw : M.2.1.newest = l.next B := by
          unfold LS.newest
          rw [b, List.length_append, List.length_singleton, Nat.add_sub_cancel, List.getD_eq_getElem?_getD, List.getElem?_append_right (Nat.le_refl _), Nat.sub_self]; rfl
        have hpp := pgs_pos h1
        obtain ⟨p1, p2, p3, p4⟩ := c.put h1 (by rw [f]; omega)
        refine ⟨fun hs => p2 (k1 hs).2, ?_⟩
        rcases p4 with ⟨q1, q2, q3, q4, q5⟩ | ⟨q1, q2, q3⟩
        · refine .inl ⟨q1, ⟨by rw [q3]; exact p1, q2, by rw [q3]; exact c.live⟩, by rw [q3, q4, d], by rw [q3, q5, f], by rw [q3, b]; rfl, fun _ => ⟨hfew, fun x hx => ?_⟩⟩
          rw [p3 x.1 (by rw [hnw]; exact (k2 x hx).1)]; exact (k2 x hx).2
        · exact .inr ⟨q1, q2, _, p1, q3.imp (fun q => by rw [q, d]) (fun q => by rw [q, d]), .inr (by rw [b]; rfl)⟩
      · rw [if_pos (by rw [a]; decide)]
        refine ⟨fun hs => absurd (k1 hs).1 (by rw [a]; decide), .inr ⟨a, b, ?_⟩⟩
        obtain ⟨segs', c1, c2, c3⟩ := c
        exact ⟨segs', c1, .inl c2, c3⟩
    · rw [if_neg hp, if_neg hp, if_neg hp]
      obtain ⟨p1, p2, p3, p4⟩ := h.put h1 (by omega)
      refine ⟨p2, ?_⟩
      rcases p4 with ⟨q1, q2, q3, q4, q5⟩ | ⟨q1, q2, q3⟩
      · exact .inl ⟨q1, ⟨by rw [q3]; exact p1, q2, by rw [q3]; exact h.live⟩, by rw [q3, q4], by rw [q3, q5], by rw [q3], fun hh => absurd hh hp⟩
      · exact .inr ⟨q1, q2, _, p1, q3, .inl rfl⟩
end Go.Proofs.YtjednaendedpdaaGreat
namespace Go.Proofs.YtjednaendedpdaaGreat
set_option maxRecDepth 100000
set_option linter.unusedVariables false
open Go Go.RowKit

/-- The first k numbers, and zeros behind them. -/
def nrow (nums : List Nat) (B k : Nat) : List Value := (List.range B).map fun b => .int .i64 ((if b < k then nums.getD b 0 else 0 : Nat) : Int)
theorem nrow_len (nums : List Nat) (B k : Nat) : (nrow nums B k).length = B := by simp [nrow]
theorem nrow_at (nums : List Nat) (B k b : Nat) (h : b < B) : (nrow nums B k).toArray[b]? = some (.int .i64 ((if b < k then nums.getD b 0 else 0 : Nat) : Int)) := by simp [nrow, h]
theorem nrow_zero (nums : List Nat) (B : Nat) : (nrow nums B 0).toArray = Array.replicate B (.int .i64 0) := by
  apply Array.ext'
  simp [nrow]
  apply List.ext_getElem?
  intro i
  by_cases h : i < B <;> simp [h]
theorem nrow_set (nums : List Nat) (B k : Nat) (h : k < B) : (nrow nums B k).set k (.int .i64 ((nums.getD k 0 : Nat) : Int)) = nrow nums B (k + 1) := by
  apply List.ext_getElem?
  intro i
  by_cases h1 : i = k
  · subst h1
    rw [List.getElem?_set_self (by rw [nrow_len]; exact h)]
    unfold nrow
    rw [List.getElem?_map, List.getElem?_range h]
    simp
  · rw [List.getElem?_set_ne (fun e => h1 e.symm)]
    unfold nrow
    rw [List.getElem?_map, List.getElem?_map]
    by_cases h2 : i < B
    · rw [List.getElem?_range h2]
      simp only [Option.map_some]
      by_cases h3 : i < k
      · rw [if_pos h3, if_pos (by omega)]
      · rw [if_neg h3, if_neg (by omega)]
    · rw [List.getElem?_eq_none (by simp; omega)]; rfl
/-- What stands in Open: the log at g, with no segment yet, and the numbers at gn. -/
structure OpnS (w wr : World) (q g gn : Nat) (v : Value) (row : List Value) : Prop where
  be : Below w.heap.size w wr
  lg : wr.heap[g]? = some (.cells #[.pointer (some ⟨q, 0, none⟩), v, .bool false] 73 (0, 0))
  nr : wr.heap[gn]? = some (.cells row.toArray 3 (0, 0))
  ge : w.heap.size ≤ g ∧ g < gn
theorem OpnS.same {w wr w1 : World} {q g gn : Nat} {v : Value} {row : List Value} (h : OpnS w wr q g gn v row) (hb : Below wr.heap.size wr w1) : OpnS w w1 q g gn v row :=
  ⟨h.be.trans (hb.mono h.be.size), (hb.block g (Array.getElem?_eq_some_iff.1 h.lg).1).trans h.lg, (hb.block gn (Array.getElem?_eq_some_iff.1 h.nr).1).trans h.nr, h.ge⟩
/-- The first k segments that are found, the newest first. -/
def fnd (nums : List Nat) (B nw k : Nat) : List (Nat × Nat) := (List.range k).map fun i => ((nw + B - i) % B, nums.getD nw 0 - i)
theorem fnd_succ (nums : List Nat) (B nw k : Nat) : fnd nums B nw (k + 1) = fnd nums B nw k ++ [((nw + B - k) % B, nums.getD nw 0 - k)] := by simp [fnd, List.range_succ]
theorem fnd_len (nums : List Nat) (B nw k : Nat) : (fnd nums B nw k).length = k := by simp [fnd]
theorem own_sl {w : World} {base size n : Nat} {e : TypeId} {v : Value} {xs : List Value} (h : w.ownsRow base e size v n xs) : ∃ a cap, v = .slice a n cap := by
  rcases h.2 with ⟨h1, h2⟩ | ⟨g, cap, cur, hv, _⟩
  · exact ⟨none, 0, by rw [h1, h2]⟩
  · exact ⟨_, cap, hv⟩
/-- What Open leaves. -/
def LOpn (F B : Int) (q p bb cb : Nat) (s : FS) (w : World) (r : Except Int (List (Nat × Nat))) (e : Ending) (w' : World) : Prop :=
  Below w.heap.size w w' ∧ match r with
  | .error c => e = .returned (.tuple #[.pointer none, .int .i64 c])
  | .ok segs => ∃ g v, e = .returned (.tuple #[.pointer (some ⟨g, 0, none⟩), .int .i64 0]) ∧ LgS w' F B g q p bb cb v s ⟨segs, false⟩ ∧ w.heap.size ≤ g ∧ ∀ k, v.ownBlock = some k → w.heap.size ≤ k
set_option maxHeartbeats 8000000 in
theorem lopen_any (q p bb cb : Nat) (F B : Nat) (s : FS) (w : World) (hf : Fl 89 w p bb cb s) (hok : s.Ok) (hp : Pa w q p (F : Nat) (B : Nat)) (hi : In s.n.length (F : Nat) (B : Nat)) (hq : q ∉ [p, bb, cb]) :
    Calls Tryz.prog 10 #[.pointer (some ⟨q, 0, none⟩)] w (LOpn (F : Nat) (B : Nat) q p bb cb s w (s.lopen F B)) := by
  have hB : B ≤ 256 := by have h1 := hi.hi; have h2 := hi.lo; have h3 := hi.few; omega
  obtain ⟨g, hg⟩ : ∃ g, g = w.heap.size := ⟨_, rfl⟩
  have b0 : Below w.heap.size w (w.alloc (.cells #[.pointer (some ⟨q, 0, none⟩), .slice none 0 0, .bool false] 73)) := (Below.refl _ _).alloc (Nat.le_refl _) _
  have L0 := Box.mk (show (w.alloc (.cells #[.pointer (some ⟨q, 0, none⟩), .slice none 0 0, .bool false] 73)).heap[g]? = some (.cells #[.pointer (some ⟨q, 0, none⟩), .slice none 0 0, .bool false] 73 (0, 0)) by rw [hg]; exact heap_alloc_new _ _)
  have B0 := Box.mk b0
  have BASE := Box.mk (And.intro hf (And.intro hok (And.intro hp (And.intro hi hq))))
  have BL := Box.mk (fun w0 (hb : Below w.heap.size w w0) (h : w0.heap[g]? = some (.cells #[.pointer (some ⟨q, 0, none⟩), .slice none 0 0, .bool false] 73 (0, 0))) => lblocks_any g q p (F : Nat) (B : Nat) s.n.length (.slice none 0 0) ⟨[], false⟩ w0 ⟨h, World.ownsRow_nil _ _ _ _⟩ (hp.upd (Upd.of_below (S := []) hb) (by simp)) hi)
  have HG := Box.mk hg
  obtain ⟨R, hR⟩ : ∃ R, R = s.lopen F B := ⟨_, rfl⟩
  rw [← hR]
  unfold FS.lopen at hR
  have HBx := Box.mk hB
  have hgw : w.heap.size = g := hg.symm
  have hmk := fun w => make_ints B (B : Int) rfl (by omega) w
  clear hf hok hp hi hq b0 hg
  by_cases h4 : B < 4
  · have h4I : decide ((B : Int) < 4) = true := by rw [decide_eq_true_eq]; omega
    rw [if_pos h4] at hR
    have HR := Box.mk hR
    clear hR h4 hB hmk
    go_enter Tryz.func10, Tryz.ntmps10
    go_wp2_with fail
    refine (BL.out _ B0.out L0.out).mono ?_
    rintro e w1 ⟨rfl, rfl⟩
    go_wp2_with fail
    go_ret2
    rw [HR.out]
    exact ⟨B0.out, rfl⟩
  · have h4I : decide ((B : Int) < 4) = false := by rw [decide_eq_false_iff_not]; omega
    have HB4 := Box.mk (show 4 ≤ B by omega)
    rw [if_neg h4] at hR
    obtain ⟨nums, hnums⟩ : ∃ nums, nums = s.nums F B := ⟨_, rfl⟩
    rw [← hnums] at hR
    dsimp only at hR
    have PR := Box.mk (fun (j : Nat) (hj : j < B) (A : Nat) (hA : A = 512 * j) w1 (hb : Below w.heap.size w w1) => pread_any q p bb cb (F : Nat) (B : Nat) s (A : Nat) 64 w1 (BASE.out.1.upd (Upd.of_below (S := []) hb) (by simp) (by simp) (by simp)) BASE.out.2.1 (BASE.out.2.2.1.upd (Upd.of_below (S := []) hb) (by simp)) BASE.out.2.2.2.1 (by omega) (by omega))
    have HPV : Box (∀ (j : Nat) (hj : j < B) (A : Nat) (hA : A = 512 * j), preadV s (F : Nat) (B : Nat) (A : Nat) 64 = if s.dead then (⟨#[]⟩, 2) else (⟨(s.pg F j 0).toArray⟩, 0)) := ⟨fun j hj A hA => by
      have hin : inB (B : Int) (A : Nat) 64 = true := by rw [inB_iff, hA]; omega
      unfold preadV FS.pg
      rw [if_pos hin, hA, show (512 * (F : Int) + ((512 * j : Nat) : Int)).toNat = 512 * (F + j) + 64 * 0 by omega]; rfl⟩
    have HR := Box.mk hR
    have HNM := Box.mk hnums
    clear hR h4 hnums
    have S0 : Box (OpnS w ((w.alloc (.cells #[.pointer (some ⟨q, 0, none⟩), .slice none 0 0, .bool false] 73)).alloc (.cells (Array.replicate B (.int .i64 0)) 3)) q g (g + 1) (.slice none 0 0) (nrow nums B 0)) := ⟨⟨B0.out.alloc (by simp) _, (heap_alloc_old _ _ (Array.getElem?_eq_some_iff.1 L0.out).1).trans L0.out, by
      rw [nrow_zero, HG.out, show w.heap.size + 1 = (w.alloc (.cells #[.pointer (some ⟨q, 0, none⟩), .slice none 0 0, .bool false] 73)).heap.size by simp]; exact heap_alloc_new _ _, by rw [HG.out]; omega⟩⟩
    have NM : Box (∀ (P : List UInt8) (hP : P.length = 64) w, Calls Tryz.prog 28 #[.string ⟨P.toArray⟩] w fun e w' => e = .returned (.int .i64 (numL P : Nat)) ∧ Below w.heap.size w w') := ⟨fun P hP w => lnumber_any ⟨P.toArray⟩ (by simpa [ByteArray.size] using hP) w⟩
    have PL : Box (∀ j, j < B → (s.pg F j 0).length = 64) := ⟨fun j hj => by
      have h1 := BASE.out.2.1.len; have h2 := BASE.out.2.2.2.1.hi
      unfold FS.pg; rw [List.length_take, List.length_drop, h1]; omega⟩
    go_enter Tryz.func10, Tryz.ntmps10
    go_wp2_with fail
    refine (BL.out _ B0.out L0.out).mono ?_
    rintro e w1 ⟨rfl, rfl⟩
    go_wp2_with fail
    refine (BL.out _ B0.out L0.out).mono ?_
    rintro e w1 ⟨rfl, rfl⟩
    go_upto_region 5 with (fail)
    generalize (w.alloc (.cells #[.pointer (some ⟨q, 0, none⟩), .slice none 0 0, .bool false] 73)).alloc (.cells (Array.replicate B (.int .i64 0)) 3) = W0 at S0 ⊢
    clear hmk B0 L0 BL h4I hgw
    go_wp2_with fail
    go_loopw [6, 7, 8, 9, 23] (fun a _ _ _ i wr => ∃ j : Nat, j ≤ B ∧ i = .int .i64 (j : Nat) ∧ a = .int .i64 (nwst nums j : Nat) ∧ (0 < j → s.dead = false) ∧ OpnS w wr q g (g + 1) (.slice none 0 0) (nrow nums B j)) (fun _ _ _ _ i _ => B - (intOf i).toNat)
    case atStart => exact ⟨0, by omega, rfl, rfl, fun h => absurd h (by omega), S0.out⟩
    case round =>
      clear S0
      obtain ⟨j, hj, rfl, rfl, hdj, hs⟩ := hrel
      have HS := Box.mk hs
      clear hs
      by_cases hlt : j < B
      · have hltI : (j : Int) < (B : Int) := by omega
        obtain ⟨A, hA, HA⟩ : ∃ y : Nat, IntKind.i64.wrap ((j : Int) * 512) = (y : Int) ∧ Box (y = 512 * j) := ⟨512 * j, by rw [IntKind.wrap_i64]; omega, ⟨rfl⟩⟩
        have P1 := Box.mk (PR.out j hlt A HA.out wr HS.out.be)
        have hpv := HPV.out j hlt A HA.out
        have HLT := Box.mk hlt
        have hB256 : (B : Int) ≤ 256 := by omega
        cases hd : s.dead with
        | true =>
          rw [hd, if_pos rfl] at hpv
          rw [hpv] at P1
          have HRR : Box (R = .error 2) := ⟨by rw [HR.out, hd, if_pos rfl]⟩
          clear hd hpv hdj hlt hj
          go_wp2_with fail
          refine P1.out.mono ?_
          rintro e w1 ⟨rfl, rfl⟩
          go_wp2_with fail
          go_ret2
          rw [HRR.out]
          exact ⟨HS.out.be, rfl⟩
        | false =>
          rw [hd, if_neg (by decide)] at hpv
          rw [hpv] at P1
          have N1 := Box.mk (NM.out (s.pg F j 0) (PL.out j hlt))
          have HD := Box.mk hd
          have hnj : numL (s.pg F j 0) = nums.getD j 0 := by rw [HNM.out, nums_at s F B j hlt]
          obtain ⟨a1, ha1⟩ : ∃ x, x = nums.getD j 0 := ⟨_, rfl⟩
          rw [hnj, ← ha1] at N1
          have HA1 := Box.mk ha1
          generalize s.pg F j 0 = P at P1 N1
          clear hd hpv hdj hlt hj hnj ha1
          go_wp2_with fail
          refine P1.out.mono ?_
          rintro e w1 ⟨rfl, rfl⟩
          go_wp2_with fail
          refine (N1.out _).mono ?_
          rintro e w2 ⟨rfl, hb⟩
          have H2 := Box.mk (HS.out.same hb)
          clear hb P1 N1
          have c1 := (cell_of_row _ _ _ _ _ _ H2.out.nr).trans (nrow_at nums B j j HLT.out)
          have f1 : w2.frozen? ⟨g + 1, j, none⟩ = false := frozen_of_row _ _ _ _ _ H2.out.nr
          have H3 : Box (OpnS w (w2.setCell ⟨g + 1, j, none⟩ (.int .i64 (a1 : Int))) q g (g + 1) (.slice none 0 0) (nrow nums B (j + 1))) := ⟨⟨by
            have := H2.out.be
            exact Upd.below this ((Upd.refl [g + 1] w2).setCell (.inl (List.mem_singleton.2 rfl)) _) (fun i hi => by rw [List.mem_singleton] at hi; have := HG.out; omega) this.size, (heap_setCell_other _ _ _ _ (by simp)).trans H2.out.lg, by rw [← nrow_set nums B j HLT.out, ← HA1.out]; exact row_put H2.out.nr _ _, H2.out.ge⟩⟩
          go_upto_region 13 with (fail)
          obtain ⟨W3, hW3⟩ : ∃ W3, W3 = w2.setCell ⟨g + 1, j, none⟩ (.int .i64 (a1 : Int)) := ⟨_, rfl⟩
          rw [← hW3] at H3 ⊢
          clear c1 f1 H2 hW3
          have hnw : nwst nums j < B := by
            rcases Nat.eq_zero_or_pos j with rfl | h
            · have := HLT.out; simpa [nwst] using this
            · have := (nwst_spec nums j).2 h; have := HLT.out; omega
          have hnwj : nwst nums j < j + 1 := by
            rcases Nat.eq_zero_or_pos j with rfl | h
            · simp [nwst]
            · have := (nwst_spec nums j).2 h; omega
          have c1 := (cell_of_row _ _ _ _ _ _ H3.out.nr).trans (nrow_at nums B (j + 1) j HLT.out)
          have c2 := (cell_of_row _ _ _ _ _ _ H3.out.nr).trans (nrow_at nums B (j + 1) (nwst nums j) hnw)
          rw [if_pos (by omega)] at c1
          rw [if_pos hnwj] at c2
          have HSUC : Box (nwst nums (j + 1) = if nums.getD j 0 > nums.getD (nwst nums j) 0 then j else nwst nums j) := ⟨rfl⟩
          have hnwI : ((nwst nums j : Nat) : Int) < (B : Int) := by omega
          obtain ⟨nw, hnwe⟩ : ∃ x, x = nwst nums j := ⟨_, rfl⟩
          have ha1 := HA1.out
          obtain ⟨a2, ha2⟩ : ∃ x, x = nums.getD (nwst nums j) 0 := ⟨_, rfl⟩
          rw [← ha1] at c1 HSUC
          rw [← ha2] at c2 HSUC
          rw [← hnwe] at c2 HSUC hnwI ⊢
          clear hnwe ha1 ha2 hnw hnwj
          by_cases hc : a1 > a2
          · have hcI : (a2 : Int) < (a1 : Int) := by omega
            rw [if_pos hc] at HSUC
            clear hc
            go_wp2_with fail
            go_quiet (fail)
            go_wp2_with fail
            exact ⟨⟨j + 1, HLT.out, by go_num, by rw [HSUC.out], fun _ => trivial, H3.out.same (belD (Below.refl _ _) _)⟩, by have := HLT.out; simp [intOf]; omega⟩
          · have hcI : ¬ (a2 : Int) < (a1 : Int) := by omega
            rw [if_neg hc] at HSUC
            clear hc
            go_wp2_with fail
            go_quiet (fail)
            go_wp2_with fail
            exact ⟨⟨j + 1, HLT.out, by go_num, by rw [HSUC.out], fun _ => trivial, H3.out.same (belD (Below.refl _ _) _)⟩, by have := HLT.out; simp [intOf]; omega⟩
      · have hltI : ¬ (j : Int) < (B : Int) := by omega
        obtain rfl : j = B := by omega
        have hdd := hdj (by have := HB4.out; omega)
        have hR := HR.out
        rw [hdd, if_neg (by decide)] at hR
        obtain ⟨nw, hnw⟩ : ∃ x, x = nwst nums j := ⟨_, rfl⟩
        rw [← hnw] at hR ⊢
        have hnwB : nw < j := by rw [hnw]; exact (nwst_spec nums j).2 (by have := HB4.out; omega)
        obtain ⟨top, htop⟩ : ∃ x, x = nums.getD nw 0 := ⟨_, rfl⟩
        rw [← htop] at hR
        have c1 := (cell_of_row _ _ _ _ _ _ HS.out.nr).trans (nrow_at nums j j nw hnwB)
        rw [if_pos hnwB, ← htop] at c1
        have hnwI : (nw : Int) < (j : Int) := by omega
        have HTOP := Box.mk (And.intro htop hnwB)
        clear htop hnw hnwB hdd hdj hlt hj PR HPV NM PL
        by_cases h0 : top = 0
        · have h0I : ((top : Int) == 0) = true := by rw [beq_iff_eq]; omega
          have HRR : Box (R = .error 140) := ⟨by rw [hR, if_pos (.inl h0)]⟩
          clear h0 hR
          go_wp2_with fail
          go_ret2
          rw [HRR.out]
          exact ⟨HS.out.be, rfl⟩
        · have h0I : ((top : Int) == 0) = false := by rw [beq_eq_false_iff_ne]; omega
          by_cases hbig : 140737488355328 < top
          · have hbI : (140737488355328 : Int) < (top : Int) := by omega
            have HRR : Box (R = .error 140) := ⟨by rw [hR, if_pos (.inr hbig)]⟩
            clear h0 hR hbig
            go_wp2_with fail
            go_ret2
            rw [HRR.out]
            exact ⟨HS.out.be, rfl⟩
          · have hbI : ¬ (140737488355328 : Int) < (top : Int) := by omega
            have HRR : Box (R = .ok (segsOf nums nw)) := ⟨by rw [hR, if_neg (by omega)]⟩
            have HT := Box.mk (show 1 ≤ top ∧ top ≤ 140737488355328 from by omega)
            have HNL : Box (nums.length = j) := ⟨by rw [HNM.out]; simp [FS.nums]⟩
            have HBP0 : Box (backP nums nw 0 = true) := ⟨by unfold backP; rw [HNL.out, Nat.sub_zero, Nat.add_mod_right, Nat.mod_eq_of_lt HTOP.out.2, ← HTOP.out.1]; simp; omega⟩
            clear h0 hR hbig
            go_wp2_with fail
            go_quiet (fail)
            have HS1 := Box.mk (HS.out.same (belD (Below.refl _ _) nq))
            generalize wr.drewN nq = W1 at HS1 ⊢
            clear c1 HS
            go_upto_block 2 with (fail)
            go_cut [10] (fun _ wx => ∃ v gv cv, v = .slice (some ⟨gv, 0, none⟩) (runB (backP nums nw) j) cv ∧ OpnS w wx q g (g + 1) v (nrow nums j j) ∧ wx.ownsRow (g + 2) 78 2 v (runB (backP nums nw) j) (segC (fnd nums j nw (runB (backP nums nw) j))))
            case first =>
              go_wp2_with fail
              go_loopw [10, 11] (fun b n wr => ∃ (k : Nat) (v : Value), k ≤ j ∧ k ≤ top ∧ b = .int .i64 (((nw + j - k) % j : Nat) : Int) ∧ n = .int .i64 ((top - k : Nat) : Int) ∧ (∀ i, i < k → backP nums nw i = true) ∧ OpnS w wr q g (g + 1) v (nrow nums j j) ∧ wr.ownsRow (g + 2) 78 2 v k (segC (fnd nums j nw k))) (fun _ n _ => (intOf n).toNat)
              case atStart => exact ⟨0, .slice none 0 0, by omega, by omega, int_congr (by rw [Nat.sub_zero, Nat.add_mod_right, Nat.mod_eq_of_lt HTOP.out.2]), int_congr (by omega), fun i h => absurd h (by omega), HS1.out, World.ownsRow_nil _ _ _ _⟩
              case round =>
                clear HS1
                obtain ⟨k, v, hk, hkt, rfl, rfl, hall, hs, hown⟩ := hrel
                have HS2 := Box.mk hs; have OWN := Box.mk hown; have HALL := Box.mk hall
                obtain ⟨av, cv, rfl⟩ := own_sl hown
                obtain ⟨d0, d1, d2⟩ : wr.cell? ⟨g, 0, none⟩ = some (.pointer (some ⟨q, 0, none⟩)) ∧ wr.cell? ⟨g, 1, none⟩ = some (.slice av k cv) ∧ wr.cell? ⟨g, 2, none⟩ = some (.bool false) := by
                  refine ⟨?_, ?_, ?_⟩ <;> (rw [cell_of_row _ _ _ _ _ _ hs.lg]; rfl)
                obtain ⟨bk, hbk⟩ : ∃ x, x = (nw + j - k) % j := ⟨_, rfl⟩
                have hbkj : bk < j := by rw [hbk]; exact Nat.mod_lt _ (by have := HB4.out; omega)
                have c2 := (cell_of_row _ _ _ _ _ _ hs.nr).trans (nrow_at nums j j bk hbkj)
                rw [if_pos hbkj] at c2
                obtain ⟨nb, hnb⟩ : ∃ x, x = nums.getD bk 0 := ⟨_, rfl⟩
                obtain ⟨t, ht⟩ : ∃ x, x = top - k := ⟨_, rfl⟩
                have hbp : backP nums nw k = (decide (k < top) && decide (nb = t)) := by
                  unfold backP; rw [HNL.out, ← HTOP.out.1, ← hbk, ← hnb, ht]
                rw [← hnb] at c2
                rw [← hbk, ← ht]
                have hbkI : (bk : Int) < (j : Int) := by omega
                have hj256 : (j : Int) ≤ 256 := by omega
                have htI : (t : Int) ≤ 140737488355328 := by have := HT.out; omega
                have HBK := Box.mk (And.intro hbk (And.intro ht hbkj))
                have HK := Box.mk (And.intro hk hkt)
                have EX : Box ((k = j ∨ backP nums nw k = false) → ∃ v gv cv, v = .slice (some ⟨gv, 0, none⟩) (runB (backP nums nw) j) cv ∧ OpnS w wr q g (g + 1) v (nrow nums j j) ∧ wr.ownsRow (g + 2) 78 2 v (runB (backP nums nw) j) (segC (fnd nums j nw (runB (backP nums nw) j)))) := ⟨fun h => by
                  have hrun := runB_spec j (backP nums nw) k HK.out.1 HALL.out h
                  rw [hrun]
                  have hk0 : 0 < k := by
                    rcases Nat.eq_zero_or_pos k with rfl | h0
                    · rcases h with h | h
                      · have := HB4.out; omega
                      · rw [HBP0.out] at h; cases h
                    · exact h0
                  obtain ⟨gv, cv', hv⟩ := own_form OWN.out hk0
                  exact ⟨_, gv, cv', hv, HS2.out, OWN.out⟩⟩
                clear hs hown hall hbk hnb ht hbkj hk hkt
                by_cases p0 : k < top
                · have p0I : (0 : Int) < (t : Int) := by have := HBK.out.2.1; omega
                  by_cases p1 : nb = t
                  · have p1I : ((nb : Int) == (t : Int)) = true := by rw [beq_iff_eq]; omega
                    by_cases p2 : k < j
                    · have p2I : (k : Int) < (j : Int) := by omega
                      have HBPK : Box (backP nums nw k = true) := ⟨by rw [hbp, decide_eq_true p0, decide_eq_true p1]; rfl⟩
                      have P02 := Box.mk (And.intro p0 p2)
                      have SZ : Box (g + 2 ≤ wr.heap.size) := ⟨by have := (Array.getElem?_eq_some_iff.1 HS2.out.nr).1; omega⟩
                      have HNOT : Box (∀ x, x < g + 2 → x ∉ (Value.slice av k cv).ownBlock.toList) := ⟨fun x hx hm => by
                        rw [Option.mem_toList] at hm
                        have := (World.ownsRow.lt OWN.out x hm).1; omega⟩
                      obtain ⟨i0, hi0, hz0, hsz0, hby0⟩ := info_parts info_tseg
                      have hk256 : k ≤ 256 := by omega
                      have HGL := Box.mk (Array.getElem?_eq_some_iff.1 HS2.out.lg).1
                      clear hbp p0 p1 p2 EX
                      go_wp2_with (at_builtin; refine wpList_append_own _ rfl (.tmp 95) (.tmp 99) 71 rfl (g + 2) 78 i0 _ 2 16 Tryz.underlying71 hi0 hz0 hsz0 hby0 rfl (by decide) (.slice av k cv) k (segC (fnd nums j nw k)) rfl (own_alloc OWN.out _) ⟨wr.heap.size, 0, none⟩ 1 1 [.int .i64 (bk : Int), .int .i64 (t : Int)] rfl rfl (two_newR wr _ _ _) (two_oneR _ _) (by unfold maxLen; omega) (by omega) (by have := SZ.out; simp; omega) ?_; intro v' w' hown' hgrow hnil; obtain ⟨g', cap', rfl⟩ := own_form hown' (by omega); have u9 : Upd ((Value.slice av k cv).ownBlock.toList) wr w' := ⟨hgrow.os, hgrow.tape, hgrow.output, Nat.le_trans (by simp) hgrow.size, fun i hi hn => (hgrow.block i (Nat.lt_of_lt_of_le hi (by simp)) (fun e => hn (by rw [← e]; simp))).trans (heap_alloc_old _ _ hi)⟩; have rg' := (u9.block g HGL.out (HNOT.out g (by omega))).trans HS2.out.lg; have f1' : w'.frozen? ⟨g, 1, none⟩ = false := frozen_of_row _ _ _ _ _ rg'; have e1' : w'.cell? ⟨g, 1, none⟩ = some (.slice av k cv) := (cell_of_row _ _ _ _ _ _ rg').trans rfl)
                      have hown2 := HBK.out
                      have p02 := P02.out
                      have hgg : g' ≠ g := by have := (World.ownsRow.lt hown' g' rfl).1; omega
                      have u10 : Upd (g :: (Value.slice av k cv).ownBlock.toList) wr (w'.setCell ⟨g, 1, none⟩ (.slice (some ⟨g', 0, none⟩) (k + 1) cap')) := (u9.mono (T := g :: (Value.slice av k cv).ownBlock.toList) (fun i hi => List.mem_cons_of_mem _ hi)).setCell (.inl (List.mem_cons_self ..)) _
                      have hsc : segC (fnd nums j nw k) ++ [.int .i64 (bk : Int), .int .i64 (t : Int)] = segC (fnd nums j nw (k + 1)) := by
                        rw [fnd_succ, segC_app, ← hown2.1, ← HTOP.out.1, ← hown2.2.1]; rfl
                      rw [hsc] at hown'
                      refine ⟨⟨k + 1, .slice (some ⟨g', 0, none⟩) (k + 1) cap', by omega, by omega, int_congr ?_, int_congr (by omega), fun i hi => ?_, ⟨Upd.below HS2.out.be u10 (fun i hi => ?_) HS2.out.be.size, ?_, ?_, HS2.out.ge⟩, own_keep hown' fun i hi _ => heap_setCell_other _ _ _ _ (by simp [Value.ownBlock] at hi; subst hi; exact hgg)⟩, by simp [intOf]; omega⟩
                      · have e1 : (bk : Int) + (j : Int) - 1 = ((bk + (j - 1) : Nat) : Int) := by omega
                        rw [e1, ← Int.natCast_emod, hown2.1, Nat.mod_add_mod, show nw + j - k + (j - 1) = (nw + j - (k + 1)) + j by omega, Nat.add_mod_right]
                      · rcases Nat.lt_succ_iff_lt_or_eq.1 hi with h | rfl
                        · exact HALL.out i h
                        · exact HBPK.out
                      · have hg0 := HG.out
                        rcases List.mem_cons.1 hi with rfl | hi
                        · omega
                        · rw [Option.mem_toList] at hi
                          have := (World.ownsRow.lt OWN.out i hi).1; omega
                      · rw [heap_setCell_same _ _ _ _ _ _ rg']; rfl
                      · exact (heap_setCell_other _ _ _ _ (by simp)).trans ((u9.block (g + 1) (Array.getElem?_eq_some_iff.1 HS2.out.nr).1 (HNOT.out (g + 1) (by omega))).trans HS2.out.nr)
                    · have p2I : ¬ (k : Int) < (j : Int) := by omega
                      have hE := EX.out (.inl (by have := HK.out; omega))
                      clear hbp p0 p1 p2 EX
                      go_wp2_with fail
                      go_meet
                      exact hE
                  · have p1I : ((nb : Int) == (t : Int)) = false := by rw [beq_eq_false_iff_ne]; omega
                    have hE := EX.out (.inr (by rw [hbp, decide_eq_false p1]; simp))
                    clear hbp p0 p1 EX
                    go_wp2_with fail
                    go_meet
                    exact hE
                · have p0I : ¬ (0 : Int) < (t : Int) := by have := HBK.out.2.1; omega
                  have hE := EX.out (.inr (by rw [hbp, decide_eq_false p0]; rfl))
                  clear hbp p0 EX
                  go_wp2_with fail
                  go_meet
                  exact hE
            case rest =>
              clear HS1
              obtain ⟨v, gv, cv, rfl, hs, hown⟩ := hcut
              obtain ⟨m, hm⟩ : ∃ m, m = runB (backP nums nw) j := ⟨_, rfl⟩
              rw [← hm] at hs hown
              obtain ⟨cur, hcur, hge, hmc, hcm, hcs, htk⟩ : ∃ cur, wc.heap[gv]? = some (.cells cur 78 (0, 0)) ∧ g + 2 ≤ gv ∧ m ≤ cv ∧ cv ≤ maxLen ∧ cur.size = cv * 2 ∧ cur.toList.take (m * 2) = segC (fnd nums j nw m) := by
                rcases hown.2 with ⟨h, _⟩ | ⟨g', c', cur, hv, hge, h1, h2, h3, h4, h5⟩
                · cases h
                · cases hv; exact ⟨cur, h1, hge, h2, h3, h4, h5⟩
              obtain ⟨rest, hrest⟩ : ∃ rest, rest = cur.toList.drop (m * 2) := ⟨_, rfl⟩
              have hrow : wc.heap[gv]? = some (.cells (segC (fnd nums j nw m) ++ rest).toArray 78 (0, 0)) := by
                rw [hcur, ← htk, hrest, List.take_append_drop]
              have hmj : m ≤ j := by rw [hm]; exact runB_le _ _
              have RV := Box.mk (sreverse_any gv cv (fnd nums j nw m) rest wc (by rw [fnd_len]; omega) hrow)
              rw [fnd_len] at RV
              have HRS : Box (R = .ok (fnd nums j nw m).reverse) := ⟨by
                rw [HRR.out]; unfold segsOf fnd; rw [HNL.out, ← hm]⟩
              have HS2 := Box.mk hs
              have HGE := Box.mk (And.intro hge (And.intro hmc hcm))
              have HSZ : Box ((segC (fnd nums j nw m) ++ rest).length = cv * 2) := ⟨by
                rw [← htk, hrest, List.take_append_drop, Array.length_toList, hcs]⟩
              have d1 : wc.cell? ⟨g, 1, none⟩ = some (.slice (some ⟨gv, 0, none⟩) m cv) := by rw [cell_of_row _ _ _ _ _ _ hs.lg]; rfl
              clear hs hown hcur hge hmc hcm hcs htk hrest hrow hmj hm
              go_wp2_with fail
              refine RV.out.mono ?_
              rintro e w9 ⟨rfl, hr9, hu⟩
              go_wp2_with fail
              go_ret2
              rw [HRS.out]
              have hge := HGE.out
              have hg0 := HG.out
              have hlt := (Array.getElem?_eq_some_iff.1 HS2.out.lg).1
              have hb9 : Below w.heap.size w w9 := Upd.below HS2.out.be hu (fun i hi => by rw [List.mem_singleton] at hi; omega) HS2.out.be.size
              have h1 := BASE.out.1.lt; have h2 := BASE.out.2.2.1.lt
              refine ⟨hb9, g, _, rfl, ⟨⟨?_, ?_, ?_⟩, BASE.out.1.upd (Upd.of_below (S := []) hb9) (by simp) (by simp) (by simp), BASE.out.2.1, BASE.out.2.2.1.upd (Upd.of_below (S := []) hb9) (by simp), BASE.out.2.2.2.1, ⟨(hu.block g hlt (by simp; omega)).trans HS2.out.lg, ?_⟩⟩, by omega, ?_⟩
              · have := BASE.out.2.2.2.2
                simp only [List.mem_cons, List.not_mem_nil, or_false, not_or] at this ⊢
                exact ⟨by omega, this⟩
              · simp only [List.mem_cons, List.not_mem_nil, or_false, not_or]; omega
              · intro k hk
                simp [Value.ownBlock] at hk
                subst hk
                simp only [List.mem_cons, List.not_mem_nil, or_false, not_or]; omega
              · have hsl := HSZ.out
                rw [List.length_append, segC_len, fnd_len] at hsl
                show World.ownsRow w9 0 78 2 _ (fnd nums j nw m).reverse.length _
                rw [List.length_reverse, fnd_len]
                refine ⟨by rw [segC_len, List.length_reverse, fnd_len]; omega, .inr ⟨gv, cv, _, rfl, Nat.zero_le _, hr9, hge.2.1, hge.2.2, ?_, ?_⟩⟩
                · rw [List.size_toArray, List.length_append, segC_len, List.length_reverse, fnd_len]; omega
                · show List.take _ (_ ++ _) = _
                  rw [List.take_append_of_le_length (by rw [segC_len, List.length_reverse, fnd_len]; omega), List.take_of_length_le (by rw [segC_len, List.length_reverse, fnd_len]; omega)]
              · intro k hk
                simp [Value.ownBlock] at hk
                omega
end Go.Proofs.YtjednaendedpdaaGreat
namespace Go.Proofs.YtjednaendedpdaaGreat
set_option maxRecDepth 100000
set_option linter.unusedVariables false
open Go Go.RowKit

def nmC (l : List Nat) : List Value := l.map fun (n : Nat) => Value.int .i64 (n : Int)
theorem nmC_snoc (l : List Nat) (n : Nat) : nmC (l ++ [n]) = nmC l ++ [.int .i64 (n : Int)] := by unfold nmC; rw [List.map_append]; rfl
theorem own_baseL {w : World} {base b2 size n : Nat} {e : TypeId} {v : Value} {xs : List Value} (h : w.ownsRow base e size v n xs) (hb : b2 ≤ base) : w.ownsRow b2 e size v n xs := by
  refine ⟨h.1, ?_⟩
  rcases h.2 with h' | ⟨g, cap, cur, a, b, c⟩
  · exact .inl h'
  · exact .inr ⟨g, cap, cur, a, Nat.le_trans hb b, c⟩
/-- The greatest so far. -/
def mostD (nums : List Nat) : Nat → Nat
  | 0 => 0
  | k + 1 => if mostD nums k < nums.getD k 0 then nums.getD k 0 else mostD nums k
def newD (nums : List Nat) : Nat → Nat
  | 0 => 0
  | k + 1 => if mostD nums k < nums.getD k 0 then k else newD nums k
theorem most_nwst (nums : List Nat) : ∀ k, mostD nums (k + 1) = nums.getD (nwst nums (k + 1)) 0 ∧ newD nums (k + 1) = nwst nums (k + 1)
  | 0 => by
    have e : nwst nums 1 = 0 := by rw [nwst]; show (if nums.getD 0 0 > nums.getD (nwst nums 0) 0 then 0 else nwst nums 0) = 0; split <;> rfl
    have e1 : mostD nums 1 = if 0 < nums.getD 0 0 then nums.getD 0 0 else 0 := rfl
    have e2 : newD nums 1 = if 0 < nums.getD 0 0 then 0 else 0 := rfl
    show mostD nums 1 = nums.getD (nwst nums 1) 0 ∧ newD nums 1 = nwst nums 1
    rw [e, e1, e2]
    by_cases h : 0 < nums.getD 0 0
    · rw [if_pos h, if_pos h]; exact ⟨rfl, rfl⟩
    · rw [if_neg h, if_neg h]; exact ⟨by omega, rfl⟩
  | k + 1 => by
    obtain ⟨h1, h2⟩ := most_nwst nums k
    have e1 : mostD nums (k + 2) = if mostD nums (k + 1) < nums.getD (k + 1) 0 then nums.getD (k + 1) 0 else mostD nums (k + 1) := rfl
    have e2 : newD nums (k + 2) = if mostD nums (k + 1) < nums.getD (k + 1) 0 then k + 1 else newD nums (k + 1) := rfl
    have e3 : nwst nums (k + 2) = if nums.getD (nwst nums (k + 1)) 0 < nums.getD (k + 1) 0 then k + 1 else nwst nums (k + 1) := rfl
    show mostD nums (k + 2) = nums.getD (nwst nums (k + 2)) 0 ∧ newD nums (k + 2) = nwst nums (k + 2)
    rw [e1, e2, e3, h1, h2]
    by_cases hc : nums.getD (nwst nums (k + 1)) 0 < nums.getD (k + 1) 0
    · rw [if_pos hc, if_pos hc]; exact ⟨rfl, rfl⟩
    · rw [if_neg hc, if_neg hc]; exact ⟨rfl, rfl⟩
theorem app_nilL (w : World) (z : Nat) : (Builtin.append_ #[80, 80] 80 #[.slice (some ⟨z, 0, none⟩) 1 1, .slice none 0 0]).run Tryz.prog w = .ok (.slice (some ⟨z, 0, none⟩) 1 1) w := by
  kernel_rfl
def ROpn (F B : Int) (q p bb cb : Nat) (s : FS) (w : World) (r : Except Int (List (Nat × Nat))) (e : Ending) (w' : World) : Prop :=
  Below w.heap.size w w' ∧ match r with
  | .error c => e = .returned (.tuple #[.pointer none, .int .i64 c])
  | .ok segs => ∃ g v, e = .returned (.tuple #[.pointer (some ⟨g, 0, none⟩), .int .i64 0]) ∧ RLgS w' F B g q p bb cb v s ⟨segs, false⟩
/-- What holds in the first loop: the log at g, as it was made. -/
structure ROp (w wr : World) (q g : Nat) (v : Value) : Prop where
  be : Below w.heap.size w wr
  lg : wr.heap[g]? = some (.cells #[.pointer (some ⟨q, 0, none⟩), v, .bool false] 82 (0, 0))
theorem ROp.same {w wr w1 : World} {q g : Nat} {v : Value} (h : ROp w wr q g v) (hb : Below wr.heap.size wr w1) : ROp w w1 q g v :=
  ⟨h.be.trans (hb.mono h.be.size), (hb.block g (Array.getElem?_eq_some_iff.1 h.lg).1).trans h.lg⟩
theorem ROp.step {w wr w1 : World} {q g : Nat} {v : Value} (h : ROp w wr q g v) (hg : g = w.heap.size) (hb : Below (g + 1) wr w1) : ROp w w1 q g v :=
  ⟨h.be.trans (hb.mono (by omega)), (hb.block g (by omega)).trans h.lg⟩
theorem ROp.lt {w wr : World} {q g : Nat} {v : Value} (h : ROp w wr q g v) : g < wr.heap.size := (Array.getElem?_eq_some_iff.1 h.lg).1
theorem nmC_at (l : List Nat) (i : Nat) (h : i < l.length) : (nmC l)[i]? = some (.int .i64 ((l.getD i 0 : Nat) : Int)) := by
  unfold nmC
  rw [List.getElem?_map, List.getD_eq_getElem?_getD, List.getElem?_eq_getElem h]; rfl
set_option maxHeartbeats 8000000 in
theorem rlopen_any (q p bb cb : Nat) (F B : Nat) (s : FS) (w : World) (hf : Fl 66 w p bb cb s) (hok : s.Ok) (hp : RPa w q p (F : Nat) (B : Nat)) (hi : In s.n.length (F : Nat) (B : Nat)) (hq : q ∉ [p, bb, cb]) (hd : s.dead = false) :
    Calls Tryz.prog 11 #[.pointer (some ⟨q, 0, none⟩)] w (ROpn (F : Nat) (B : Nat) q p bb cb s w (s.lopen F B)) := by
  have hB : B ≤ 256 := by have h1 := hi.hi; have h2 := hi.lo; have h3 := hi.few; omega
  obtain ⟨g, hg⟩ : ∃ g, g = w.heap.size := ⟨_, rfl⟩
  obtain ⟨W0, hW0⟩ : ∃ W, W = w.alloc (.cells #[.pointer (some ⟨q, 0, none⟩), .slice none 0 0, .bool false] 82) := ⟨_, rfl⟩
  have R0 := Box.mk (show ROp w W0 q g (.slice none 0 0) from ⟨by rw [hW0]; exact (Below.refl _ _).alloc (Nat.le_refl _) _, by rw [hW0, hg]; exact heap_alloc_new _ _⟩)
  have BASE := Box.mk (And.intro hf (And.intro hok (And.intro hp (And.intro hi hq))))
  have BL := Box.mk (fun w0 v l (h : ROp w w0 q g v) (ho : w0.ownsRow 0 87 2 v l.length (segC l)) => rlblocks_any g q p (F : Nat) (B : Nat) v ⟨l, false⟩ w0 ⟨h.lg, ho⟩ (hp.upd (Upd.of_below (S := []) h.be) (by simp)))
  have HG := Box.mk hg
  have hs0 : W0.heap.size = g + 1 := by rw [hW0, hg]; simp
  have HS0 := Box.mk hs0
  obtain ⟨R, hR⟩ : ∃ R, R = s.lopen F B := ⟨_, rfl⟩
  rw [← hR]
  unfold FS.lopen at hR
  clear hf hok hp hi hq
  by_cases h4 : B < 4
  · as_aux_lemma =>
    have h4I : decide ((B : Int) < 4) = true := by rw [decide_eq_true_eq]; omega
    rw [if_pos h4] at hR
    have HR := Box.mk hR
    clear hR h4 hB
    go_enter Tryz.func11, Tryz.ntmps11
    go_upto_region 2 with (fail)
    rw [← hW0, ← hg]
    clear hW0 hg
    go_wp2_with fail
    refine (BL.out _ _ [] R0.out (World.ownsRow_nil _ _ _ _)).mono ?_
    rintro e w1 ⟨rfl, rfl⟩
    go_wp2_with fail
    go_ret2
    rw [HR.out]
    exact ⟨R0.out.be, rfl⟩
  · have h4I : decide ((B : Int) < 4) = false := by rw [decide_eq_false_iff_not]; omega
    have HB4 := Box.mk (show 4 ≤ B by omega)
    rw [if_neg h4, hd, if_neg (by decide)] at hR
    obtain ⟨nums, hnums⟩ : ∃ nums, nums = s.nums F B := ⟨_, rfl⟩
    rw [← hnums] at hR
    dsimp only at hR
    have PR := Box.mk (fun (j : Nat) (hj : j < B) (A : Nat) (hA : A = 512 * j) w1 (hb : Below w.heap.size w w1) => rpread_any q p bb cb (F : Nat) (B : Nat) s (A : Nat) 64 w1 (BASE.out.1.upd (Upd.of_below (S := []) hb) (by simp) (by simp) (by simp)) BASE.out.2.1 (BASE.out.2.2.1.upd (Upd.of_below (S := []) hb) (by simp)) BASE.out.2.2.2.1 (by omega) (by omega))
    have HPV : Box (∀ (j : Nat) (hj : j < B) (A : Nat) (hA : A = 512 * j), preadV s (F : Nat) (B : Nat) (A : Nat) 64 = (⟨(s.pg F j 0).toArray⟩, 0)) := ⟨fun j hj A hA => by
      have hin : inB (B : Int) (A : Nat) 64 = true := by rw [inB_iff, hA]; omega
      unfold preadV FS.pg
      rw [if_pos hin, hA, hd, show (512 * (F : Int) + ((512 * j : Nat) : Int)).toNat = 512 * (F + j) + 64 * 0 by omega]; rfl⟩
    have HR := Box.mk hR
    have HNM := Box.mk hnums
    have HNL : Box (nums.length = B) := ⟨by rw [hnums]; simp [FS.nums]⟩
    have PL : Box (∀ j, j < B → (s.pg F j 0).length = 64) := ⟨fun j hj => by
      have h1 := BASE.out.2.1.len; have h2 := BASE.out.2.2.2.1.hi
      unfold FS.pg; rw [List.length_take, List.length_drop, h1]; omega⟩
    obtain ⟨i0, hi0, hz0, hsz0, hby0⟩ := info_parts info_int14
    clear hR h4 hnums hd
    have O0 := Box.mk (show (W0.alloc (.cells #[] 3)).ownsRow (g + 1) 3 1 (.slice (some ⟨W0.heap.size, 0, none⟩) 0 0) 0 [] from World.ownsRow_lit (base := g + 1) (size := 1) (e := 3) W0 #[] 0 (by omega) (by unfold maxLen; omega) rfl)
    have R1 := Box.mk (R0.out.same (show Below W0.heap.size W0 (W0.alloc (.cells #[] 3)) from (Below.refl _ _).alloc (Nat.le_refl _) _))
    go_enter Tryz.func11, Tryz.ntmps11
    go_upto_region 2 with (fail)
    rw [← hW0, ← hg]
    clear hW0 hg hs0
    go_wp2_with fail
    refine (BL.out _ _ [] R0.out (World.ownsRow_nil _ _ _ _)).mono ?_
    rintro e w1 ⟨rfl, rfl⟩
    go_wp2_with fail
    go_loopw [5, 6, 7, 8] (fun u nw mx i wr => ∃ j : Nat, j ≤ B ∧ i = .int .i64 (j : Nat) ∧ nw = .int .i64 (newD nums j : Nat) ∧ mx = .int .i64 (mostD nums j : Nat) ∧ ROp w wr q g (.slice none 0 0) ∧ wr.ownsRow (g + 1) 3 1 u j (nmC (nums.take j))) (fun _ _ _ i _ => B - (intOf i).toNat)
    case atStart => exact ⟨0, Nat.zero_le _, rfl, rfl, rfl, R1.out, O0.out⟩
    case round =>
      clear O0 R1 R0
      obtain ⟨j, hj, rfl, rfl, rfl, hro, hown⟩ := hrel
      have HRO := Box.mk hro; have OW := Box.mk hown
      have BL1 := Box.mk (BL.out _ _ [] hro (World.ownsRow_nil _ _ _ _))
      clear hro hown
      by_cases hlt : j < B
      · have hltI : (j : Int) < (B : Int) := by omega
        obtain ⟨A, hA, HA⟩ : ∃ y : Nat, IntKind.i64.wrap (512 * (j : Int)) = (y : Int) ∧ Box (y = 512 * j) := ⟨512 * j, by rw [IntKind.wrap_i64]; omega, ⟨rfl⟩⟩
        have P1 := Box.mk (PR.out j hlt A HA.out wr HRO.out.be)
        rw [HPV.out j hlt A HA.out] at P1
        dsimp only at P1
        have hPl := PL.out j hlt
        have hnj : nums.getD j 0 = numL (s.pg F j 0) := by rw [HNM.out, nums_at s F B j hlt]
        have htk : nums.take (j + 1) = nums.take j ++ [nums.getD j 0] := by
          rw [List.take_add_one, List.getD_eq_getElem?_getD, List.getElem?_eq_getElem (by rw [HNL.out]; exact hlt)]; rfl
        generalize s.pg F j 0 = P at P1 hPl hnj
        obtain ⟨PB, hPB⟩ : ∃ x : ByteArray, x = ⟨P.toArray⟩ := ⟨_, rfl⟩
        have hPBl : PB.data.toList = P := by rw [hPB]
        have hPBs : PB.size = 64 := by rw [hPB]; show P.toArray.size = 64; rw [List.size_toArray]; exact hPl
        rw [← hPB] at P1
        obtain ⟨n0, hn0⟩ : ∃ n, n = leNat ((P.drop 1).take 6) := ⟨_, rfl⟩
        have GE := Box.mk (fun w => rlget_any (PB.extract 1 7) (by rw [ByteArray.size_extract, hPBs]; omega) w)
        rw [show num (PB.extract 1 7) = n0 by rw [hn0]; unfold num; rw [ba_cut, hPBl]] at GE
        have hn48 : n0 < 281474976710656 := by
          rw [hn0]
          have h1 := leNat_lt ((P.drop 1).take 6)
          have h2 : ((P.drop 1).take 6).length = 6 := by rw [List.length_take, List.length_drop]; omega
          rw [h2] at h1
          exact h1
        have FI := Box.mk (fun w => rfirst_any n0 hn48 w)
        obtain ⟨FB, hFB⟩ : ∃ x : ByteArray, x = ⟨(firstL n0).toArray⟩ := ⟨_, rfl⟩
        have hFBl : FB.data.toList = firstL n0 := by rw [hFB]
        rw [← hFB] at FI
        obtain ⟨a1, ha1⟩ : ∃ x, x = nums.getD j 0 := ⟨_, rfl⟩
        have HA1 : Box (a1 = if n0 = 0 ∨ firstL n0 ≠ P then 0 else n0) := ⟨by rw [ha1, hnj, hn0]; unfold numL; rfl⟩
        have HTK : Box (nmC (nums.take (j + 1)) = nmC (nums.take j) ++ [.int .i64 (a1 : Int)]) := ⟨by rw [htk, nmC_snoc, ← ha1]⟩
        have HM1 : Box (mostD nums (j + 1) = if mostD nums j < a1 then a1 else mostD nums j) := ⟨by rw [ha1]; rfl⟩
        have HM2 : Box (newD nums (j + 1) = if mostD nums j < a1 then j else newD nums j) := ⟨by rw [ha1]; rfl⟩
        have HFP : Box (FB.toList = firstL n0 ∧ PB.toList = P) := ⟨⟨by rw [ByteArray.toList_eq, hFBl], by rw [ByteArray.toList_eq, hPBl]⟩⟩
        obtain ⟨mx, hmx⟩ : ∃ x, x = mostD nums j := ⟨_, rfl⟩
        obtain ⟨nw, hnw⟩ : ∃ x, x = newD nums j := ⟨_, rfl⟩
        rw [← hmx] at HM1 HM2 ⊢
        rw [← hnw] at HM2 ⊢
        clear hPl hnj htk hPB hPBl hn0 hn48 hFB hFBl ha1 hmx hnw
        go_wp2_with fail
        refine BL1.out.mono ?_
        rintro e w1 ⟨rfl, rfl⟩
        go_wp2_with fail
        refine P1.out.mono ?_
        rintro e w1 ⟨rfl, hu⟩
        have RO1 := Box.mk (HRO.out.same (Upd.below9 hu)); have OW1 := Box.mk (own_belowL OW.out (Upd.below9 hu))
        clear hu P1 BL1 HRO OW
        go_wp2_with fail
        refine (GE.out _).mono ?_
        rintro e w2 ⟨rfl, rfl⟩
        go_upto_region 13 with (fail)
        go_cut [51] (fun c wx => ∃ b : Bool, c = .bool b ∧ a1 = (if b = true then 0 else n0) ∧ ROp w wx q g (.slice none 0 0) ∧ wx.ownsRow (g + 1) 3 1 u5 j (nmC (nums.take j)))
        case first =>
          by_cases hz : n0 = 0
          · have hzI : ((n0 : Int) == 0) = true := by rw [beq_iff_eq]; omega
            have HE : Box (a1 = 0) := ⟨by rw [HA1.out, if_pos (.inl hz)]⟩
            clear hz
            go_wp2_with fail
            go_meet
            exact ⟨true, rfl, HE.out, RO1.out, OW1.out⟩
          · have hzI : ((n0 : Int) == 0) = false := by rw [beq_eq_false_iff_ne]; omega
            by_cases he : firstL n0 = P
            · have q1 : (FB.toList == PB.toList) = true := by rw [beq_iff_eq, HFP.out.1, HFP.out.2]; exact he
              have HE : Box (a1 = n0) := ⟨by rw [HA1.out, if_neg (fun h => h.elim hz (fun h => h he))]⟩
              clear hz he
              go_wp2_with fail
              refine (FI.out _).mono ?_
              rintro e w3 ⟨rfl, hb⟩
              have RO2 := Box.mk (RO1.out.same hb); have OW2 := Box.mk (own_belowL OW1.out hb)
              clear hb
              go_wp2_with fail
              go_meet
              exact ⟨false, rfl, HE.out, RO2.out, OW2.out⟩
            · have q1 : (FB.toList == PB.toList) = false := by rw [beq_eq_false_iff_ne, HFP.out.1, HFP.out.2]; exact he
              have HE : Box (a1 = 0) := ⟨by rw [HA1.out, if_pos (.inr he)]⟩
              clear hz he
              go_wp2_with fail
              refine (FI.out _).mono ?_
              rintro e w3 ⟨rfl, hb⟩
              have RO2 := Box.mk (RO1.out.same hb); have OW2 := Box.mk (own_belowL OW1.out hb)
              clear hb
              go_wp2_with fail
              go_meet
              exact ⟨true, rfl, HE.out, RO2.out, OW2.out⟩
        case rest =>
          obtain ⟨b, rfl, hab, hro, hown⟩ := hcut
          have RO2 := Box.mk hro; have OW2 := Box.mk hown
          clear hro hown RO1 OW1 FI GE
          cases b with
          | true =>
            rw [if_pos rfl] at hab
            subst hab
            go_upto_region 16 with (at_builtin; refine wpList_append_own _ rfl (.tmp 52) (.tmp 54) 64 rfl (g + 1) 3 i0 (.int .i64 0) 1 8 Tryz.underlying64 hi0 hz0 hsz0 hby0 rfl (by decide) u5 j _ rfl (own_allocL OW2.out _) ⟨wc.heap.size, 0, none⟩ 1 1 [.int .i64 0] rfl rfl (one_cellL wc _ _) (fun u hu => by simp at hu; subst hu; rfl) (by unfold maxLen; omega) (by omega) (by have := RO2.out.lt; simp; omega) ?_; intro v' w' hown' hgrow hnil)
            have HON := Box.mk hown'
            have RO3 := Box.mk (RO2.out.step HG.out (((Below.refl (g + 1) wc).alloc (by have := RO2.out.lt; omega) (.cells #[.int .i64 0] 3)).grown hgrow (by have := RO2.out.lt; simp; omega) (fun k hk => (World.ownsRow.lt (own_allocL OW2.out (.cells #[.int .i64 0] 3)) k hk).1)))
            clear hown' hgrow hnil RO2 OW2
            by_cases hgt : mx < 0
            · have hgI : (mx : Int) < 0 := by omega
              rw [if_pos hgt] at HM1 HM2
              clear hgt
              go_wp2_with fail
              exact ⟨⟨j + 1, hlt, by go_num, by rw [HM2.out], by rw [HM1.out]; rfl, RO3.out, by rw [HTK.out]; exact HON.out⟩, by simp [intOf]; omega⟩
            · have hgI : ¬ (mx : Int) < 0 := by omega
              rw [if_neg hgt] at HM1 HM2
              clear hgt
              go_wp2_with fail
              exact ⟨⟨j + 1, hlt, by go_num, by rw [HM2.out], by rw [HM1.out], RO3.out, by rw [HTK.out]; exact HON.out⟩, by simp [intOf]; omega⟩
          | false =>
            rw [if_neg (by decide)] at hab
            subst hab
            go_upto_region 16 with (at_builtin; refine wpList_append_own _ rfl (.tmp 52) (.tmp 54) 64 rfl (g + 1) 3 i0 (.int .i64 0) 1 8 Tryz.underlying64 hi0 hz0 hsz0 hby0 rfl (by decide) u5 j _ rfl (own_allocL OW2.out _) ⟨wc.heap.size, 0, none⟩ 1 1 [.int .i64 (a1 : Int)] rfl rfl (one_cellL wc _ _) (fun u hu => by simp at hu; subst hu; rfl) (by unfold maxLen; omega) (by omega) (by have := RO2.out.lt; simp; omega) ?_; intro v' w' hown' hgrow hnil)
            have HON := Box.mk hown'
            have RO3 := Box.mk (RO2.out.step HG.out (((Below.refl (g + 1) wc).alloc (by have := RO2.out.lt; omega) (.cells #[.int .i64 (a1 : Int)] 3)).grown hgrow (by have := RO2.out.lt; simp; omega) (fun k hk => (World.ownsRow.lt (own_allocL OW2.out (.cells #[.int .i64 (a1 : Int)] 3)) k hk).1)))
            clear hown' hgrow hnil RO2 OW2
            by_cases hgt : mx < a1
            · have hgI : (mx : Int) < (a1 : Int) := by omega
              rw [if_pos hgt] at HM1 HM2
              clear hgt
              go_wp2_with fail
              exact ⟨⟨j + 1, hlt, by go_num, by rw [HM2.out], by rw [HM1.out], RO3.out, by rw [HTK.out]; exact HON.out⟩, by simp [intOf]; omega⟩
            · have hgI : ¬ (mx : Int) < (a1 : Int) := by omega
              rw [if_neg hgt] at HM1 HM2
              clear hgt
              go_wp2_with fail
              exact ⟨⟨j + 1, hlt, by go_num, by rw [HM2.out], by rw [HM1.out], RO3.out, by rw [HTK.out]; exact HON.out⟩, by simp [intOf]; omega⟩
      · have hltI : ¬ (j : Int) < (B : Int) := by omega
        obtain rfl : j = B := by omega
        have hmn : mostD nums j = nums.getD (nwst nums j) 0 ∧ newD nums j = nwst nums j := by
          obtain ⟨m, rfl⟩ : ∃ m, j = m + 1 := ⟨j - 1, by have := HB4.out; omega⟩
          exact most_nwst nums m
        have hR := HR.out
        obtain ⟨nw, hnw⟩ : ∃ x, x = nwst nums j := ⟨_, rfl⟩
        rw [hmn.1, hmn.2]
        rw [← hnw] at hR ⊢
        have hnwB : nw < j := by rw [hnw]; exact (nwst_spec nums j).2 (by have := HB4.out; omega)
        obtain ⟨top, htop⟩ : ∃ x, x = nums.getD nw 0 := ⟨_, rfl⟩
        rw [← htop] at hR ⊢
        have HTOP := Box.mk (And.intro htop hnwB)
        obtain ⟨gn, cn, rfl, hgn, hgnl⟩ := own_ptrL OW.out (by have := HB4.out; omega)
        have NC0 : Box (∀ i, i < j → wr.cell? ⟨gn, i, none⟩ = some (.int .i64 ((nums.getD i 0 : Nat) : Int))) := ⟨fun i hi => by
          rw [OW.out.cellAt i (by omega), List.take_of_length_le (by rw [HNL.out]; exact Nat.le_refl _)]
          exact nmC_at nums i (by rw [HNL.out]; exact hi)⟩
        have HGN := Box.mk (And.intro hgn hgnl)
        clear hnw hmn hnwB htop OW PR HPV PL hgn hgnl hlt
        go_wp2_with fail
        refine BL1.out.mono ?_
        rintro e w1 ⟨rfl, rfl⟩
        go_upto_region 19 with (fail)
        by_cases h0 : top = 0
        · as_aux_lemma =>
          have h0I : ((top : Int) == 0) = true := by rw [beq_iff_eq]; omega
          have HRR : Box (R = .error 140) := ⟨by rw [hR, if_pos (.inl h0)]⟩
          clear h0 hR
          go_wp2_with fail
          go_ret2
          rw [HRR.out]
          exact ⟨HRO.out.be, rfl⟩
        · have h0I : ((top : Int) == 0) = false := by rw [beq_eq_false_iff_ne]; omega
          by_cases hbig : 140737488355328 < top
          · as_aux_lemma =>
            have hbI : (140737488355328 : Int) < (top : Int) := by omega
            have HRR : Box (R = .error 140) := ⟨by rw [hR, if_pos (.inr hbig)]⟩
            clear h0 hR hbig
            go_wp2_with fail
            go_ret2
            rw [HRR.out]
            exact ⟨HRO.out.be, rfl⟩
          · have hbI : ¬ (140737488355328 : Int) < (top : Int) := by omega
            have HRR : Box (R = .ok (segsOf nums nw)) := ⟨by rw [hR, if_neg (by omega)]⟩
            have HT := Box.mk (show 1 ≤ top ∧ top ≤ 140737488355328 from by omega)
            clear h0 hR hbig BL1
            go_wp2_with fail
            go_loopw [13] (fun i wx => ∃ (k : Nat) (v : Value) (l : List (Nat × Nat)), k ≤ j ∧ k ≤ top ∧ i = .int .i64 (k : Nat) ∧ l = (fnd nums j nw k).reverse ∧ l.length = k ∧ (k = 0 → v = .slice none 0 0) ∧ (∀ i, i < k → backP nums nw i = true) ∧ ROp w wx q g v ∧ wx.ownsRow (g + 1) 87 2 v l.length (segC l) ∧ (∀ i, i < j → wx.cell? ⟨gn, i, none⟩ = some (.int .i64 ((nums.getD i 0 : Nat) : Int))) ∧ gn < wx.heap.size) (fun i _ => j - (intOf i).toNat)
            case atStart => exact ⟨0, .slice none 0 0, [], Nat.zero_le _, Nat.zero_le _, rfl, rfl, rfl, fun _ => rfl, (fun i h => by omega), HRO.out, World.ownsRow_nil _ _ _ _, NC0.out, HGN.out.2⟩
            case round =>
              clear HRO NC0
              obtain ⟨k, v, l, hk, hkt, rfl, hl, hll, hv0, hall, hro, hown, hnc, hgl⟩ := hrel
              obtain ⟨av, cv, rfl⟩ := own_sl hown
              have HRO := Box.mk hro; have OW := Box.mk hown; have NC := Box.mk hnc; have HALL := Box.mk hall; have HL := Box.mk hl; have HV0 := Box.mk hv0
              have BL2 := Box.mk (BL.out wr _ l hro (own_baseL hown (Nat.zero_le _)))
              have HLL := Box.mk hll
              obtain ⟨bk, hbk⟩ : ∃ x, x = (nw + j - k) % j := ⟨_, rfl⟩
              have hbkj : bk < j := by rw [hbk]; exact Nat.mod_lt _ (by have := HB4.out; omega)
              have c2 := hnc bk hbkj
              obtain ⟨nb, hnb⟩ : ∃ x, x = nums.getD bk 0 := ⟨_, rfl⟩
              rw [← hnb] at c2
              obtain ⟨t, ht⟩ : ∃ x, x = top - k := ⟨_, rfl⟩
              have hbp : backP nums nw k = (decide (k < top) && decide (nb = t)) := by
                unfold backP; rw [HNL.out, ← HTOP.out.1, ← hbk, ← hnb, ht]
              have EX : Box ((k = j ∨ backP nums nw k = false) → ROpn (F : Nat) (j : Nat) q p bb cb s w R (.returned (.tuple #[.pointer (some ⟨g, 0, none⟩), .int .i64 0])) wr) := ⟨fun h => by
                have hrun := runB_spec j (backP nums nw) k hk hall h
                have e : segsOf nums nw = l := by
                  rw [hl]
                  show ((List.range (runB (backP nums nw) nums.length)).map _).reverse = _
                  rw [HNL.out, hrun]
                  rfl
                have hfl := BASE.out.1.lt
                refine ⟨hro.be, ?_⟩
                rw [HRR.out]
                have hu := Upd.of_below (S := []) hro.be
                have hq2 := BASE.out.2.2.1.lt
                have hgx : ∀ x, x < w.heap.size → x ≠ g := fun x hx => by have := HG.out; omega
                refine ⟨g, _, rfl, ⟨⟨?_, ?_, ?_⟩, BASE.out.1.upd hu (by simp) (by simp) (by simp), BASE.out.2.1, BASE.out.2.2.1.upd hu (by simp), BASE.out.2.2.2.1, ⟨hro.lg, ?_⟩⟩⟩
                · intro hm
                  rcases List.mem_cons.1 hm with h | h
                  · exact hgx q hq2 h
                  · exact BASE.out.2.2.2.2 h
                · simp only [List.mem_cons, List.not_mem_nil, or_false, not_or]
                  exact ⟨fun h => hgx p hfl.1 h.symm, fun h => hgx bb hfl.2.1 h.symm, fun h => hgx cb hfl.2.2 h.symm⟩
                · intro k hk
                  have := (World.ownsRow.lt hown k hk).1
                  have hgw := HG.out
                  simp only [List.mem_cons, List.not_mem_nil, or_false, not_or]
                  omega
                · dsimp only
                  rw [e]
                  exact own_baseL hown (Nat.zero_le _)⟩
              obtain ⟨D, hD, hDe⟩ : ∃ D : Int, IntKind.i64.wrap ((nw : Int) - (k : Int)) = D ∧ D = (nw : Int) - (k : Int) := ⟨_, by rw [IntKind.wrap_i64]; have := HTOP.out.2; omega, rfl⟩
              obtain ⟨E, hE, hEe⟩ : ∃ E : Nat, IntKind.i64.wrap (D + (j : Int)) = (E : Int) ∧ E = nw + j - k := ⟨nw + j - k, by rw [IntKind.wrap_i64, hDe]; have := HTOP.out.2; omega, rfl⟩
              have hrem : (E : Int) % (j : Int) = (bk : Int) := by rw [hEe, hbk, Int.natCast_emod]
              have hj0 : ((j : Int) == 0) = false := by rw [beq_eq_false_iff_ne]; have := HB4.out; omega
              have hE0 : (0 : Int) ≤ (E : Int) := by omega
              have hT : IntKind.i64.wrap ((top : Int) - (k : Int)) = (t : Int) := by rw [IntKind.wrap_i64, ht]; have := HT.out; omega
              have hbkI : (bk : Int) < (j : Int) := by omega
              have hj256 : (j : Int) ≤ 256 := by omega
              have HBK := Box.mk (And.intro hbk (And.intro ht hbkj))
              have HK := Box.mk (And.intro hk hkt)
              clear hl hll hv0 hall hro hown hnc hbk hnb ht hbkj hk hkt hDe hEe
              by_cases hlt : k < j
              · have hltI : (k : Int) < (j : Int) := by omega
                by_cases p0 : k < top
                · have p0I : ¬ (t : Int) < 1 := by have := HBK.out.2.1; omega
                  by_cases p1 : nb = t
                  · have p1I : ((nb : Int) == (t : Int)) = true := by rw [beq_iff_eq]; omega
                    have p1J : ((nb : Int) != (t : Int)) = false := by rw [bne_eq_false_iff_eq]; omega
                    have HBPK : Box (backP nums nw k = true) := ⟨by rw [hbp, decide_eq_true p0, decide_eq_true p1]; rfl⟩
                    have P02 := Box.mk (And.intro p0 hlt)
                    obtain ⟨d0, d1, d2⟩ : wr.cell? ⟨g, 0, none⟩ = some (.pointer (some ⟨q, 0, none⟩)) ∧ wr.cell? ⟨g, 1, none⟩ = some (.slice av l.length cv) ∧ wr.cell? ⟨g, 2, none⟩ = some (.bool false) := by
                      refine ⟨?_, ?_, ?_⟩ <;> (rw [cell_of_row _ _ _ _ _ _ HRO.out.lg]; rfl)
                    have NL : Box (segC (fnd nums j nw (k + 1)).reverse = [.int .i64 (bk : Int), .int .i64 (t : Int)] ++ segC l) := ⟨by
                      rw [fnd_succ, List.reverse_append, List.reverse_singleton, segC_app, ← HL.out, ← HBK.out.1, ← HTOP.out.1, ← HBK.out.2.1]; rfl⟩
                    have NLL : Box ((fnd nums j nw (k + 1)).reverse.length = k + 1) := ⟨by rw [List.length_reverse, fnd_len]⟩
                    have HALN : Box (∀ i, i < k + 1 → backP nums nw i = true) := ⟨fun i hi => by
                      rcases Nat.lt_succ_iff_lt_or_eq.1 hi with h | rfl
                      · exact HALL.out i h
                      · exact HBPK.out⟩
                    clear hbp p0 p1 hlt EX
                    go_wp2_with fail
                    refine BL2.out.mono ?_
                    rintro e w1 ⟨rfl, rfl⟩
                    go_wp2_with fail
                    refine BL2.out.mono ?_
                    rintro e w1 ⟨rfl, rfl⟩
                    go_wp2_with fail
                    refine BL2.out.mono ?_
                    rintro e w1 ⟨rfl, rfl⟩
                    go_upto_region 26 with (fail)
                    have hnum : k ≤ 256 := by have := HK.out; omega
                    obtain ⟨LIT, hLIT⟩ : ∃ W, W = wr.alloc (.cells #[.int .i64 (bk : Int), .int .i64 (t : Int)] 87) := ⟨_, rfl⟩
                    have bl : Below wr.heap.size wr LIT := by rw [hLIT]; exact (Below.refl _ _).alloc (Nat.le_refl _) _
                    have rgl : LIT.heap[g]? = some (.cells #[.pointer (some ⟨q, 0, none⟩), .slice av l.length cv, .bool false] 82 (0, 0)) := (bl.block g HRO.out.lt).trans HRO.out.lg
                    have nwl : LIT.heap[wr.heap.size]? = some (.cells #[.int .i64 (bk : Int), .int .i64 (t : Int)] 87 (0, 0)) := by rw [hLIT]; exact heap_alloc_new _ _
                    have szl : LIT.heap.size = wr.heap.size + 1 := by rw [hLIT]; simp
                    have e1 : LIT.cell? ⟨g, 1, none⟩ = some (.slice av l.length cv) := (cell_of_row _ _ _ _ _ _ rgl).trans rfl
                    have LO : LIT.ownsRow wr.heap.size 87 2 (.slice (some ⟨wr.heap.size, 0, none⟩) 1 1) 1 [.int .i64 (bk : Int), .int .i64 (t : Int)] := ⟨rfl, .inr ⟨wr.heap.size, 1, #[.int .i64 (bk : Int), .int .i64 (t : Int)], rfl, Nat.le_refl _, nwl, Nat.le_refl _, by unfold maxLen; omega, rfl, rfl⟩⟩
                    have f1 : LIT.frozen? ⟨g, 1, none⟩ = false := frozen_of_row _ _ _ _ _ rgl
                    by_cases hk0 : k = 0
                    · as_aux_lemma =>
                      have hv := HV0.out hk0
                      have hl0 : l = [] := List.eq_nil_of_length_eq_zero (by rw [HLL.out]; exact hk0)
                      rw [hv] at d1 e1
                      obtain ⟨W9, hW9⟩ : ∃ W, W = LIT.setCell ⟨g, 1, none⟩ (.slice (some ⟨wr.heap.size, 0, none⟩) 1 1) := ⟨_, rfl⟩
                      have RN := Box.mk (show ROp w W9 q g (.slice (some ⟨wr.heap.size, 0, none⟩) 1 1) from ⟨by
                        rw [hW9]; exact (HRO.out.be.trans (bl.mono HRO.out.be.size)).setCell (p := ⟨g, 1, none⟩) (by show w.heap.size ≤ g; have := HG.out; omega) _, by rw [hW9, heap_setCell_same _ _ _ _ _ _ rgl]; rfl⟩)
                      have ON := Box.mk (show W9.ownsRow (g + 1) 87 2 (.slice (some ⟨wr.heap.size, 0, none⟩) 1 1) (fnd nums j nw (k + 1)).reverse.length (segC (fnd nums j nw (k + 1)).reverse) by
                        rw [NLL.out, NL.out, hl0, hk0, hW9]
                        exact own_baseL (own_keep LO fun i hi _ => heap_setCell_other _ _ _ _ (by simp [Value.ownBlock] at hi; subst hi; have := HRO.out.lt; show wr.heap.size ≠ g; omega)) (by have := HRO.out.lt; omega))
                      have NCN := Box.mk (show ∀ i, i < j → W9.cell? ⟨gn, i, none⟩ = some (.int .i64 ((nums.getD i 0 : Nat) : Int)) from fun i hi => by
                        rw [hW9, World.cell?_setCell_far _ _ _ _ (by show g ≠ gn; have := HGN.out; omega)]
                        exact (bl.cell (p := ⟨gn, i, none⟩) hgl).trans (NC.out i hi))
                      have HW9 := Box.mk hW9
                      have hap := app_nilL LIT wr.heap.size
                      have GLN : Box (gn < W9.heap.size) := ⟨by rw [hW9]; simp [szl]; omega⟩
                      have HLB := Box.mk hLIT
                      clear hW9 rgl nwl LO bl BL2 OW hk0 hv hl0 hLIT
                      have d1' := cellA (.cells #[.int .i64 (bk : Int), .int .i64 (t : Int)] 87) d1
                      go_wp2_with (at_builtin; rw [← HLB.out]; refine wpList_append_run rfl (.tmp 102) (.tmp 106) 80 rfl rfl rfl hap ?_)
                      rw [← HW9.out]
                      exact ⟨⟨k + 1, .slice (some ⟨wr.heap.size, 0, none⟩) 1 1, (fnd nums j nw (k + 1)).reverse, by have := P02.out; omega, by have := P02.out; omega, by go_num, rfl, NLL.out, fun h => by omega, HALN.out, RN.out, ON.out, NCN.out, GLN.out⟩, by have := P02.out; simp [intOf]; omega⟩
                    · as_aux_lemma =>
                      obtain ⟨gs, cs, hav⟩ := own_form OW.out (by rw [HLL.out]; omega)
                      injection hav with hav1 hav2 hav3
                      subst hav1 hav3
                      clear hav2
                      have CEL : ∀ (i : Nat) (u : Value), (segC l)[i]? = some u → LIT.cell? ((⟨gs, 0, none⟩ : Addr).add i) = some u := fun i u hu => by
                        have hi := (List.getElem?_eq_some_iff.1 hu).1
                        rw [segC_len] at hi
                        rw [show ((⟨gs, 0, none⟩ : Addr).add i) = ⟨gs, i, none⟩ from by unfold Addr.add; split <;> simp_all]
                        rw [bl.cell (p := ⟨gs, i, none⟩) (World.ownsRow.lt OW.out gs rfl).2, OW.out.cellAt i (by omega)]
                        exact hu
                      have CE := Box.mk CEL
                      have LOB := Box.mk LO
                      have hl16 : l.length ≤ 256 := by rw [HLL.out]; exact hnum
                      have BLB := Box.mk bl
                      have RGB := Box.mk rgl
                      have SZB := Box.mk szl
                      have HLB := Box.mk hLIT
                      obtain ⟨i1, hi1, hz1, hsz1, hby1⟩ := info_parts info_rseg
                      clear CEL LO bl rgl nwl szl BL2 e1 f1 hk0
                      have d1' := cellA (.cells #[.int .i64 (bk : Int), .int .i64 (t : Int)] 87) d1
                      go_wp2_with (at_builtin; rw [← HLB.out]; refine wpList_append_own _ rfl (.tmp 102) (.tmp 106) 80 rfl wr.heap.size 87 i1 _ 2 16 Tryz.underlying80 hi1 hz1 hsz1 hby1 rfl (by decide) (.slice (some ⟨wr.heap.size, 0, none⟩) 1 1) 1 [.int .i64 (bk : Int), .int .i64 (t : Int)] rfl LOB.out ⟨gs, 0, none⟩ l.length cv (segC l) rfl (by rw [segC_len, Nat.mul_comm]) CE.out (segC_one l) (by unfold maxLen; omega) (by omega) (by rw [SZB.out]; omega) ?_; intro v' w' hown' hgrow hnil; obtain ⟨g', cap', rfl⟩ := own_form hown' (by omega); have bz := BLB.out.grown hgrow (by rw [SZB.out]; omega) (fun k hk => by simp [Value.ownBlock] at hk; omega); have rg' := (bz.block g HRO.out.lt).trans HRO.out.lg; have f1' : w'.frozen? ⟨g, 1, none⟩ = false := frozen_of_row _ _ _ _ _ rg'; have e1' : w'.cell? ⟨g, 1, none⟩ = some (.slice (some ⟨gs, 0, none⟩) l.length cv) := (cell_of_row _ _ _ _ _ _ rg').trans rfl)
                      have hgg : g' ≠ g := by have := (World.ownsRow.lt hown' g' rfl).1; have := HRO.out.lt; omega
                      obtain ⟨W9, hW9⟩ : ∃ W, W = w'.setCell ⟨g, 1, none⟩ (.slice (some ⟨g', 0, none⟩) (1 + l.length) cap') := ⟨_, rfl⟩
                      rw [← hW9]
                      refine ⟨⟨k + 1, .slice (some ⟨g', 0, none⟩) (1 + l.length) cap', (fnd nums j nw (k + 1)).reverse, by have := P02.out; omega, by have := P02.out; omega, by go_num, rfl, NLL.out, fun h => by omega, HALN.out, ⟨?_, ?_⟩, ?_, fun i hi => ?_, ?_⟩, by have := P02.out; simp [intOf]; omega⟩
                      · rw [hW9]; exact (HRO.out.be.trans (bz.mono HRO.out.be.size)).setCell (p := ⟨g, 1, none⟩) (by show w.heap.size ≤ g; have := HG.out; omega) _
                      · rw [hW9, heap_setCell_same _ _ _ _ _ _ rg']; rfl
                      · rw [NLL.out, NL.out, show k + 1 = 1 + l.length by rw [HLL.out]; omega, hW9]
                        exact own_baseL (own_keep hown' fun i hi _ => heap_setCell_other _ _ _ _ (by simp [Value.ownBlock] at hi; subst hi; exact hgg)) (by have := HRO.out.lt; omega)
                      · rw [hW9, World.cell?_setCell_far _ _ _ _ (by show g ≠ gn; have := HGN.out; omega)]
                        exact (bz.cell (p := ⟨gn, i, none⟩) hgl).trans (NC.out i hi)
                      · rw [hW9]
                        have := bz.size
                        simp; omega
                  · as_aux_lemma =>
                    have p1I : ((nb : Int) == (t : Int)) = false := by rw [beq_eq_false_iff_ne]; omega
                    have p1J : ((nb : Int) != (t : Int)) = true := by rw [bne_iff_ne]; omega
                    have FINAL := Box.mk (EX.out (.inr (by rw [hbp, decide_eq_false p1, Bool.and_false])))
                    clear hbp p0 p1 EX
                    go_wp2_with fail
                    refine BL2.out.mono ?_
                    rintro e w1 ⟨rfl, rfl⟩
                    go_wp2_with fail
                    refine BL2.out.mono ?_
                    rintro e w1 ⟨rfl, rfl⟩
                    go_wp2_with fail
                    refine BL2.out.mono ?_
                    rintro e w1 ⟨rfl, rfl⟩
                    go_wp2_with fail
                    go_ret2
                    exact FINAL.out
                · as_aux_lemma =>
                  have p0I : (t : Int) < 1 := by have := HBK.out.2.1; omega
                  have FINAL := Box.mk (EX.out (.inr (by rw [hbp, decide_eq_false p0, Bool.false_and])))
                  clear hbp p0 EX
                  go_wp2_with fail
                  refine BL2.out.mono ?_
                  rintro e w1 ⟨rfl, rfl⟩
                  go_wp2_with fail
                  refine BL2.out.mono ?_
                  rintro e w1 ⟨rfl, rfl⟩
                  go_wp2_with fail
                  refine BL2.out.mono ?_
                  rintro e w1 ⟨rfl, rfl⟩
                  go_wp2_with fail
                  go_ret2
                  exact FINAL.out
              · as_aux_lemma =>
                have hltI : ¬ (k : Int) < (j : Int) := by omega
                have FINAL := Box.mk (EX.out (.inl (by have := HK.out.1; omega)))
                clear hbp EX
                go_wp2_with fail
                refine BL2.out.mono ?_
                rintro e w1 ⟨rfl, rfl⟩
                go_wp2_with fail
                go_ret2
                exact FINAL.out
end Go.Proofs.YtjednaendedpdaaGreat
namespace Go.Proofs.YtjednaendedpdaaGreat
set_option maxRecDepth 100000
set_option linter.unusedVariables false
open Go Go.RowKit

theorem own_formI {w : World} {base : Nat} {e : TypeId} {size : Nat} {v : Value} {n : Nat} {xs : List Value} (h : w.ownsRow base e size v n xs) (hn : 0 < n) : ∃ g cap, v = .slice (some ⟨g, 0, none⟩) n cap := by
  rcases h.2 with ⟨_, h0⟩ | ⟨g, cap, cur, hv, _⟩
  · omega
  · exact ⟨g, cap, hv⟩
theorem ldead_any (g q : Nat) (v : Value) (l : LS) (w : World) (h : Lg w g q v l) : Calls Tryz.prog 44 #[.pointer (some ⟨g, 0, none⟩)] w fun e w' => e = .returned (.bool l.dead) ∧ w = w' := by
  obtain ⟨c0, c1, c2⟩ := h.cells
  clear h
  go_enter Tryz.func44, Tryz.ntmps44
  go_wp2
  go_ret
  exact ⟨rfl, rfl⟩
theorem lperase_any (g q p bb cb : Nat) (F B : Int) (v : Value) (s : FS) (l : LS) (k : Int) (w : World) (h : LgS w F B g q p bb cb v s l) :
    Calls Tryz.prog 92 #[.pointer (some ⟨q, 0, none⟩), .int .i64 k] w fun e w' => e = .returned (.int .i64 (s.perase F B k).2) ∧ LgS w' F B g q p bb cb v (s.perase F B k).1 l ∧ Upd [p, bb, cb] w w' :=
  (perase_any q p bb cb F B s k w h.f h.ok h.pa h.i).mono fun e w' ⟨he, hf, hu⟩ => ⟨he, h.flash hf (FS.perase_ok h.ok F B k).1 (FS.perase_ok h.ok F B k).2 hu, hu⟩
set_option maxHeartbeats 4000000 in
theorem ldrop_any (g q p bb cb : Nat) (F B : Nat) (v : Value) (s : FS) (l : LS) (i : Nat) (w : World) (h : LgS w (F : Nat) (B : Nat) g q p bb cb v s l) (hk : l.Ok B) (hi : i < l.segs.length) :
    Calls Tryz.prog 72 #[.pointer (some ⟨g, 0, none⟩), .int .i64 (i : Nat)] w fun e w' => e = .returned (.int .i64 (s.ldrop F B l i).2.2) ∧
      (∃ v', LgS w' (F : Nat) (B : Nat) g q p bb cb v' (s.ldrop F B l i).1 (s.ldrop F B l i).2.1 ∧ ∀ j, v'.ownBlock = some j → v.ownBlock = some j ∨ w.heap.size ≤ j) ∧ Upd (fp g v p bb cb) w w' := by
  have hB : B ≤ 256 := by have h1 := h.i.hi; have h2 := h.i.lo; have h3 := h.i.few; omega
  obtain ⟨R, hR⟩ : ∃ R, R = s.ldrop F B l i := ⟨_, rfl⟩
  rw [← hR]
  unfold FS.ldrop at hR
  obtain ⟨c0, c1, c2⟩ := h.lg.cells
  obtain ⟨gs, cap, rfl, hs⟩ := h.lg.seg hk.ne
  have H := Box.mk h
  obtain ⟨n, hn⟩ : ∃ n, n = l.segs.length := ⟨_, rfl⟩
  have hnB : n ≤ B := by rw [hn]; exact hk.few
  rw [← hn] at c1 H hi hR ⊢
  have HN := Box.mk hn
  clear h
  by_cases h1 : n = 1
  · rw [if_pos h1] at hR
    have h1I : ((n : Int) == 1) = true := by rw [beq_iff_eq]; omega
    have HR := Box.mk hR
    clear hR h1
    go_enter Tryz.func72, Tryz.ntmps72
    go_wp2_with fail
    go_ret
    rw [HR.out]
    exact ⟨rfl, ⟨_, H.out, fun j hj => .inl hj⟩, Upd.refl _ _⟩
  · rw [if_neg h1] at hR
    have h1I : ((n : Int) == 1) = false := by rw [beq_eq_false_iff_ne]; omega
    cases hld : l.dead with
    | true =>
      rw [hld, if_pos rfl] at hR
      rw [hld] at c2
      have HR := Box.mk hR
      clear hR
      go_enter Tryz.func72, Tryz.ntmps72
      go_wp2_with fail
      go_ret
      rw [HR.out]
      exact ⟨rfl, ⟨_, H.out, fun j hj => .inl hj⟩, Upd.refl _ _⟩
    | false =>
      rw [hld, if_neg (by decide)] at hR
      rw [hld] at c2
      obtain ⟨cur, hcur, hcs, htk⟩ : ∃ cur, w.heap[gs]? = some (.cells cur 78 (0, 0)) ∧ cur.size = cap * 2 ∧ cur.toList.take (n * 2) = segC l.segs := by
        rcases H.out.lg.own.2 with ⟨h, _⟩ | ⟨g', c, cur, hv, _, hqa, _, _, hqb, hqc⟩
        · cases h
        · cases hv; exact ⟨cur, hqa, hqb, by rw [hn]; exact hqc⟩
      obtain ⟨sg, hsg⟩ : ∃ sg, l.segs[i]? = some sg := ⟨_, List.getElem?_eq_getElem (by omega)⟩
      have hgd : l.segs.getD i (0, 0) = sg := by rw [List.getD_eq_getElem?_getD, hsg]; rfl
      obtain ⟨sc0, sc1⟩ := hs i sg hsg
      rw [hgd] at hR
      obtain ⟨x1, x2⟩ := sg
      dsimp only at sc0 sc1 hR
      have HGS := Box.mk hcur
      have HX1 : Box (cur[i * 2]? = some (.int .i64 (x1 : Nat))) := ⟨by rw [← sc0, cell_of_row _ _ _ _ _ _ hcur]⟩
      have GN := Box.mk H.out.ap.hg
      have GSN : Box (gs ∉ [p, bb, cb]) := ⟨fun h => H.out.ap.hv gs rfl (List.mem_cons_of_mem _ (List.mem_cons_of_mem _ h))⟩
      have LT : Box (∀ k ∈ [p, bb, cb], k < w.heap.size) := ⟨by have := H.out.f.lt; intro k hk; simp at hk; omega⟩
      have PE := Box.mk (fun w h => lperase_any g q p bb cb (F : Nat) (B : Nat) (.slice (some ⟨gs, 0, none⟩) n cap) s l (x1 : Nat) w h)
      have HR := Box.mk hR
      generalize s.perase (F : Nat) (B : Nat) (x1 : Nat) = r at PE HR
      obtain ⟨s1, e1⟩ := r
      dsimp only at PE HR
      have hiI : (i : Int) < (n : Int) := by omega
      have hn1 : n ≤ 256 := by omega
      have HS := Box.mk hs
      clear hR hcur hcs htk hsg hgd sc0 sc1 hs hB hn
      go_enter Tryz.func72, Tryz.ntmps72
      go_upto_region 5 with (fail)
      refine wp_region_mixS [p, bb, cb] (fun w => LgS w (F : Nat) (B : Nat) g q p bb cb (.slice (some ⟨gs, 0, none⟩) n cap) s l) (fun w w' hg h => h.keep hg.upd) (H.out.keep (Upd.refl [] w).drew) (LT.out) 14 [.flo, .flo, .flo, .flo, .flo, .flo, .flo, .flo, .flo, .flo, .flo, .flo, .flo, .cha] (by kernel_rfl) (by kernel_rfl) rfl ?_
      simp only [List.take, List.zip, List.zipWith]
      try go_frame
      refine gm_move (.tmp 0) (.inl rfl) (.pointer (some ⟨g, 0, none⟩)) rfl ?_
      try go_frame
      refine gm_move (.tmp 0) (.inl rfl) (.pointer (some ⟨g, 0, none⟩)) rfl ?_
      try go_frame
      refine gm_flo (.pointer (some ⟨g, 0, none⟩)) (fun w1 hw1 => ?_) ?_
      case refine_1 =>
        go_simp
      try go_frame
      refine gm_flo (.pointer (some ⟨g, 0, none⟩)) (fun w1 hw1 => ?_) ?_
      case refine_1 =>
        go_simp
      try go_frame
      refine gm_flo (.pointer (some ⟨q, 0, none⟩)) (fun w1 hw1 => ?_) ?_
      case refine_1 =>
        have e1 : w1.cell? ⟨g, 0, none⟩ = some (.pointer (some ⟨q, 0, none⟩)) := (cell_of_row _ _ _ _ _ _ (hw1.at (GN.out) H.out.lg.row)).trans rfl
        go_simp
      try go_frame
      refine gm_move (.tmp 0) (.inl rfl) (.pointer (some ⟨g, 0, none⟩)) rfl ?_
      try go_frame
      refine gm_flo (.pointer (some ⟨g, 0, none⟩)) (fun w1 hw1 => ?_) ?_
      case refine_1 =>
        go_simp
      try go_frame
      refine gm_flo (.pointer (some ⟨g, 1, none⟩)) (fun w1 hw1 => ?_) ?_
      case refine_1 =>
        go_simp
      try go_frame
      refine gm_flo (.slice (some ⟨gs, 0, none⟩) n cap) (fun w1 hw1 => ?_) ?_
      case refine_1 =>
        have e1 : w1.cell? ⟨g, 1, none⟩ = some (.slice (some ⟨gs, 0, none⟩) n cap) := (cell_of_row _ _ _ _ _ _ (hw1.at (GN.out) H.out.lg.row)).trans rfl
        go_simp
      try go_frame
      refine gm_move (.tmp 1) (.inl rfl) (.int .i64 (i : Nat)) rfl ?_
      try go_frame
      refine gm_flo (.pointer (some ⟨gs, i * 2, none⟩)) (fun w1 hw1 => ?_) ?_
      case refine_1 =>
        go_simp
      try go_frame
      refine gm_flo (.pointer (some ⟨gs, i * 2, none⟩)) (fun w1 hw1 => ?_) ?_
      case refine_1 =>
        go_simp
      try go_frame
      refine gm_flo (.int .i64 (x1 : Nat)) (fun w1 hw1 => ?_) ?_
      case refine_1 =>
        have e1 : w1.cell? ⟨gs, i * 2, none⟩ = some (.int .i64 (x1 : Nat)) := (cell_of_row _ _ _ _ _ _ (hw1.at GSN.out HGS.out)).trans HX1.out
        go_simp
      try go_frame
      refine gm_callS [.pointer (some ⟨q, 0, none⟩), .int .i64 (x1 : Nat)] (by kernel_rfl) rfl rfl (fun w1 hw1 hF1 => (PE.out w1 hF1).mono ?_)
      rintro e w2 ⟨rfl, hf, hu⟩
      refine ⟨_, rfl, GrS.of_upd hu (by simp), ((fun w => LgS w (F : Nat) (B : Nat) g q p bb cb (.slice (some ⟨gs, 0, none⟩) n cap) s1 l)), ((fun w w' hg h => h.keep hg.upd)), (hf), ?_⟩
      clear hw1 hF1 hf hu w1 w2
      try go_frame
      refine gm_nil ?_
      intro w9 hw9 hF9
      simp only [List.drop]
      try go_frame
      have H9 := Box.mk hF9; have U9 := Box.mk ((Upd.refl [g, p, bb, cb] w).drew.trans (hw9.upd.mono (T := [g, p, bb, cb]) (fun k hk => List.mem_cons_of_mem _ hk)))
      clear hF9 hw9
      go_wp2_with fail
      refine (ltold_any g q _ l e1 _ H9.out.lg H9.out.vg).mono ?_
      rintro e w2 ⟨rfl, hl, hu⟩
      have H10 := Box.mk (H9.out.own hl hu); have U10 := Box.mk (U9.out.trans (hu.mono (T := [g, p, bb, cb]) (by simp)))
      clear hl hu H9 U9
      by_cases he : e1 = 0
      · have heb : (e1 != 0) = false := by simpa using he
        have hr := HR.out
        rw [if_neg (by simpa using he)] at hr
        have HRz := Box.mk hr
        subst he
        clear hr
        have hcc : ∀ j u, (segC l.segs)[j]? = some u → w2.cell? ⟨gs, j, none⟩ = some u := fun j u hu => by
          have ho := H10.out.lg.own
          change w2.ownsRow 0 78 2 _ l.segs.length (segC l.segs) at ho
          rw [← HN.out] at ho
          have hj := (List.getElem?_eq_some_iff.1 hu).1
          rw [segC_len, ← HN.out] at hj
          exact (ho.cellAt j (by omega)).trans hu
        obtain ⟨d0, d1, d2⟩ := H10.out.lg.cells
        have CLN := Box.mk (sclone_any gs cap l.segs w2 (by have := HN.out; omega) hcc)
        rw [← HN.out] at CLN
        clear hcc
        go_wp2_with fail
        refine CLN.out.mono ?_
        rintro e w3 ⟨vc, rfl, hown, hb⟩
        have OWNC := Box.mk hown
        have H11s : Box (∀ k ∈ [g, q, p, bb, cb], k < w2.heap.size) := ⟨by
          have h1 := H10.out.f.lt; have h2 := H10.out.lg.lt; have h3 := H10.out.pa.lt
          intro k hk; simp only [List.mem_cons, List.not_mem_nil, or_false] at hk; omega⟩
        have H11 := Box.mk (H10.out.keep (Upd.of_below hb)); have U11 := Box.mk (U10.out.trans ((Upd.of_below (S := []) hb).mono (by simp))); have S2 := Box.mk U10.out.size
        clear hown hb H10 U10 d0 d1 d2 CLN
        obtain ⟨gc, capc, rfl⟩ := own_formI OWNC.out (by omega)
        have DEL := Box.mk (sdelete_any w2.heap.size gc capc l.segs i w3 (by have := HN.out; omega) (by have := HN.out; omega) (by rw [← HN.out]; exact OWNC.out))
        rw [← HN.out, show ((i + 1 : Nat) : Int) = (i : Int) + 1 by omega] at DEL
        have hwi : IntKind.i64.wrap ((i : Int) + 1) = ((i + 1 : Nat) : Int) := by rw [IntKind.wrap_i64]; omega
        have rg3 := H11.out.lg.row
        have GC3 := Box.mk (World.ownsRow.lt OWNC.out gc rfl)
        have hgg : g ≠ gc := fun e => by have := H11s.out g (by simp); have := GC3.out.1; omega
        go_wp2_with fail
        refine DEL.out.mono ?_
        rintro e w4 ⟨vd, rfl, hown, hgd, hu⟩
        obtain ⟨gd, capd, rfl⟩ := own_formI hown (by omega)
        obtain rfl : gd = gc := by simpa [Value.ownBlock] using hgd
        have rg4 := (hu.block g (Array.getElem?_eq_some_iff.1 rg3).1 (by simpa using hgg)).trans rg3
        have f1 : w4.frozen? ⟨g, 1, none⟩ = false := frozen_of_row _ _ _ _ _ rg4
        have e1 : w4.cell? ⟨g, 1, none⟩ = some (.slice (some ⟨gs, 0, none⟩) n cap) := (cell_of_row _ _ _ _ _ _ rg4).trans rfl
        have OWD := Box.mk hown; have UD := Box.mk hu
        clear hown hu hgd
        go_wp2_with fail
        go_ret
        have u5 : Upd [gd, g] w3 (w4.setCell ⟨g, 1, none⟩ (.slice (some ⟨gd, 0, none⟩) (n - 1) capd)) := (UD.out.mono (T := [gd, g]) (by simp)).setCell (.inl (by simp)) _
        have nn : ∀ k ∈ [g, q, p, bb, cb], k ≠ gd := fun k hk e => by have := H11s.out k hk; have := GC3.out.1; omega
        have nm := H11.out.ap.nm
        have nv : ∀ j, j ∈ [q, p, bb, cb] → j ∉ [gd, g] := fun j hj hm => by
          rcases List.mem_cons.1 hm with rfl | hm
          · exact nn j (List.mem_cons_of_mem _ hj) rfl
          · rw [List.mem_singleton] at hm; subst hm
            simp only [List.mem_cons, List.not_mem_nil, or_false] at hj; omega
        rw [HRz.out]
        refine ⟨rfl, ⟨.slice (some ⟨gd, 0, none⟩) (n - 1) capd, ⟨⟨H11.out.ap.hq, H11.out.ap.hg, fun j hj => ?_⟩, H11.out.f.upd u5 (nv _ (by simp)) (nv _ (by simp)) (nv _ (by simp)), H11.out.ok, H11.out.pa.upd u5 (nv _ (by simp)), H11.out.i, ⟨?_, ?_⟩⟩, fun j hj => ?_⟩, ?_⟩
        · simp [Value.ownBlock] at hj; subst hj; exact fun h => nn _ h rfl
        · rw [heap_setCell_same _ _ _ _ _ _ rg4]; rfl
        · have ho := own_keep OWD.out (w' := w4.setCell ⟨g, 1, none⟩ (.slice (some ⟨gd, 0, none⟩) (n - 1) capd)) fun j hj _ => heap_setCell_other _ _ _ _ (by simp [Value.ownBlock] at hj; subst hj; exact fun e => hgg e.symm)
          rw [List.length_eraseIdx, if_pos (by have := HN.out; omega), ← HN.out]
          exact ⟨ho.1, ho.2.imp id fun ⟨a, b, c, d, _, f⟩ => ⟨a, b, c, d, Nat.zero_le _, f⟩⟩
        · simp [Value.ownBlock] at hj; subst hj
          exact .inr (Nat.le_trans S2.out GC3.out.1)
        · exact (U11.out.mono (T := fp g (.slice (some ⟨gs, 0, none⟩) n cap) p bb cb) (by simp [fp])).ext u5 (fun j hj => by
            rcases List.mem_cons.1 hj with rfl | hj
            · exact .inr (Nat.le_trans S2.out GC3.out.1)
            · rw [List.mem_singleton] at hj; subst hj; exact .inl (by simp [fp]))
      · have heb : (e1 != 0) = true := by rw [bne_iff_ne]; exact he
        have hr := HR.out
        rw [if_pos (by simpa using he)] at hr
        have HR := Box.mk hr
        clear hr he
        go_wp2_with fail
        go_ret
        rw [HR.out]
        exact ⟨rfl, ⟨_, H10.out, fun j hj => .inl hj⟩, U10.out.mono (by simp [fp])⟩
/-- What a drop leaves. -/
def LDrop (w : World) (F B : Nat) (g q p bb cb : Nat) (v : Value) (r : FS × LS × Int) (e : Ending) (w' : World) : Prop :=
  e = .returned (.int .i64 r.2.2) ∧ (∃ v', LgS w' (F : Nat) (B : Nat) g q p bb cb v' r.1 r.2.1 ∧ ∀ j, v'.ownBlock = some j → v.ownBlock = some j ∨ w.heap.size ≤ j) ∧ Upd (fp g v p bb cb) w w'
theorem loldest_any (g q p bb cb : Nat) (F B : Nat) (v : Value) (s : FS) (l : LS) (w : World) (h : LgS w (F : Nat) (B : Nat) g q p bb cb v s l) (hk : l.Ok B) :
    Calls Tryz.prog 39 #[.pointer (some ⟨g, 0, none⟩)] w (LDrop w F B g q p bb cb v (s.ldrop F B l 0)) := by
  have D := Box.mk (ldrop_any g q p bb cb F B v s l 0 w h hk (List.length_pos_iff.2 hk.ne))
  generalize s.ldrop F B l 0 = r at D ⊢
  clear h hk
  go_enter Tryz.func39, Tryz.ntmps39
  go_wp2_with fail
  refine D.out.mono ?_
  rintro e w1 ⟨rfl, h1, u1⟩
  have H1 := Box.mk h1; have U1 := Box.mk u1; clear h1 u1
  go_wp2_with fail
  go_ret
  exact ⟨rfl, H1.out, U1.out⟩
theorem lnewdrop_any (g q p bb cb : Nat) (F B : Nat) (v : Value) (s : FS) (l : LS) (w : World) (h : LgS w (F : Nat) (B : Nat) g q p bb cb v s l) (hk : l.Ok B) :
    Calls Tryz.prog 56 #[.pointer (some ⟨g, 0, none⟩)] w (LDrop w F B g q p bb cb v (s.ldrop F B l (l.segs.length - 1))) := by
  have hB : B ≤ 256 := by have h1 := h.i.hi; have h2 := h.i.lo; have h3 := h.i.few; omega
  obtain ⟨k, hk1, hn⟩ := LS.newest_at hk.ne
  have hfew := hk.few
  have D := Box.mk (ldrop_any g q p bb cb F B v s l k w h hk (by omega))
  rw [show l.segs.length - 1 = k by omega]
  generalize s.ldrop F B l k = r at D ⊢
  obtain ⟨c0, c1, c2⟩ := h.lg.cells
  obtain ⟨gs, cap, hv, _⟩ := h.lg.seg hk.ne
  have hwk : IntKind.i64.wrap (k : Int) = (k : Int) := by rw [IntKind.wrap_i64]; omega
  rw [hk1] at hv
  have HV := Box.mk hv
  rw [hv] at c1
  clear h hk hn hv
  go_enter Tryz.func56, Tryz.ntmps56
  go_wp2_with fail
  refine D.out.mono ?_
  rintro e w1 ⟨rfl, h1, u1⟩
  have H1 := Box.mk h1; have U1 := Box.mk u1; clear h1 u1
  go_wp2_with fail
  go_ret
  exact ⟨rfl, H1.out, U1.out⟩
end Go.Proofs.YtjednaendedpdaaGreat

/- Points of the curve in memory: four elements in one block; what is loaded, stored and built of them. -/
import Derived.Test.YtpgichfagodkpaaFieldZ
namespace Go.Proofs.Ytpgichfagodkpaa.Fe
set_option linter.unusedVariables false
open Go Go.RowKit

/-- The cells of a point: x, y, z, t. -/
def pcell (x y z t : Nat → Nat) : Array Value := #[.int .u64 (x 0 : Nat), .int .u64 (x 1 : Nat), .int .u64 (x 2 : Nat), .int .u64 (x 3 : Nat), .int .u64 (x 4 : Nat), .int .u64 (y 0 : Nat), .int .u64 (y 1 : Nat), .int .u64 (y 2 : Nat), .int .u64 (y 3 : Nat), .int .u64 (y 4 : Nat),
  .int .u64 (z 0 : Nat), .int .u64 (z 1 : Nat), .int .u64 (z 2 : Nat), .int .u64 (z 3 : Nat), .int .u64 (z 4 : Nat), .int .u64 (t 0 : Nat), .int .u64 (t 1 : Nat), .int .u64 (t 2 : Nat), .int .u64 (t 3 : Nat), .int .u64 (t 4 : Nat)]
theorem pcell_one (x y z t : Nat → Nat) : (pcell x y z t).all (·.oneCell') = true := by simp [pcell, Value.oneCell']
theorem zeroP (w : World) : (zeroValue 43).run Try.prog w = .ok (.agg (pcell f0 f0 f0 f0)) w := by kernel_rfl
/-- Some cells of a block, read as one value. -/
theorem run_loadVar_sub {P : Program} (w : World) (g off : Nat) (t ty : TypeId) (cs : Array Value) (l : List Value) (fr : Nat × Nat) (d : TypeDesc) (hg : w.heap[g]? = some (.cells cs t fr)) (hl : ∀ j v, l[j]? = some v → cs[off + j]? = some v)
    (hu : P.underlying ty = some d) (hd : (match d with | .struct _ | .array _ _ => true | _ => false) = true) (hi : (P.info? ty).map (·.size) = some l.length) :
    (loadVar ty ⟨g, off, none⟩).run P w = .ok (.agg l.toArray) w := by
  have h1 : (loadCells ⟨g, off, none⟩ l.length).run P w = .ok l.toArray w :=
    run_loadCells_list (P := P) w ⟨g, off, none⟩ l (fun j v hv => by
      have hadd : (⟨g, off, none⟩ : Addr).add j = ⟨g, off + j, none⟩ := by unfold Addr.add; split <;> simp_all
      rw [hadd, cell_of_row w g (off + j) cs t fr hg]
      exact hl j v hv)
  cases hq : P.info? ty with
  | none => simp [hq] at hi
  | some i =>
    have hs : i.size = l.length := by simpa [hq] using hi
    have hagg : (isAgg ty).run P w = .ok true w := by
      unfold isAgg
      rw [Sem.run_bind, run_underlying hu w]
      cases d <;> simp_all
    simp [loadVar, Sem.run_bind, hagg, sizeOf, typeInfo, hq, hs, h1]
theorem sub_x (x y z t : Nat → Nat) : ∀ (j : Nat) (v : Value), (ecell x).toList[j]? = some v → (pcell x y z t)[0 + j]? = some v
  | 0, _, h => h | 1, _, h => h | 2, _, h => h | 3, _, h => h | 4, _, h => h | n + 5, _, h => by simp [ecell] at h
theorem sub_y (x y z t : Nat → Nat) : ∀ (j : Nat) (v : Value), (ecell y).toList[j]? = some v → (pcell x y z t)[5 + j]? = some v
  | 0, _, h => h | 1, _, h => h | 2, _, h => h | 3, _, h => h | 4, _, h => h | n + 5, _, h => by simp [ecell] at h
theorem sub_z (x y z t : Nat → Nat) : ∀ (j : Nat) (v : Value), (ecell z).toList[j]? = some v → (pcell x y z t)[10 + j]? = some v
  | 0, _, h => h | 1, _, h => h | 2, _, h => h | 3, _, h => h | 4, _, h => h | n + 5, _, h => by simp [ecell] at h
theorem sub_t (x y z t : Nat → Nat) : ∀ (j : Nat) (v : Value), (ecell t).toList[j]? = some v → (pcell x y z t)[15 + j]? = some v
  | 0, _, h => h | 1, _, h => h | 2, _, h => h | 3, _, h => h | 4, _, h => h | n + 5, _, h => by simp [ecell] at h
theorem field0 (b : Nat) (w : World) : (Instr.fieldAt 43 (.pointer (some ⟨b, 0, none⟩)) 0).run Try.prog w = .ok (.pointer (some ⟨b, 0, none⟩)) w := by kernel_rfl
theorem field1 (b : Nat) (w : World) : (Instr.fieldAt 43 (.pointer (some ⟨b, 0, none⟩)) 1).run Try.prog w = .ok (.pointer (some ⟨b, 5, none⟩)) w := by kernel_rfl
theorem field2 (b : Nat) (w : World) : (Instr.fieldAt 43 (.pointer (some ⟨b, 0, none⟩)) 2).run Try.prog w = .ok (.pointer (some ⟨b, 10, none⟩)) w := by kernel_rfl
theorem field3 (b : Nat) (w : World) : (Instr.fieldAt 43 (.pointer (some ⟨b, 0, none⟩)) 3).run Try.prog w = .ok (.pointer (some ⟨b, 15, none⟩)) w := by kernel_rfl
theorem build4 (x y z t : Nat → Nat) (w : World) : (Instr.build 43 #[(0, .agg (ecell x)), (1, .agg (ecell y)), (2, .agg (ecell z)), (3, .agg (ecell t))]).run Try.prog w = .ok (.agg (pcell x y z t)) w := by kernel_rfl
theorem build2 (y z : Nat → Nat) (w : World) : (Instr.build 43 #[(1, .agg (ecell y)), (2, .agg (ecell z))]).run Try.prog w = .ok (.agg (pcell f0 y z f0)) w := by kernel_rfl
theorem build0 (w : World) : (Instr.build 43 #[]).run Try.prog w = .ok (.agg (pcell f0 f0 f0 f0)) w := by kernel_rfl
theorem buildE (w : World) : (Instr.build 41 #[]).run Try.prog w = .ok (.agg (ecell f0)) w := by kernel_rfl

section
variable {W : World} {S : List Nat} {T : (World → Prop) → List Nat → Act → Prop} {L : List (Oper × Kd)} {F : World → Prop} {N : List Nat} {a : Act} {o : Oper}
theorem gm_loadP (p : Operand) (ho : o.op = .load 43 p) (b : Nat) (x y z t : Nat → Nat) (hb : W.heap[b]? = some (.cells (pcell x y z t) 43 (0, 0))) (hx : a.eval p = .pointer (some ⟨b, 0, none⟩))
    (h : wpG Try.prog W [] T L F N (a.put o.dst (.agg (pcell x y z t)))) : wpG Try.prog W [] T ((o, .flo) :: L) F N a :=
  gm_load p ho b (pcell x y z t) 43 (0, 0) _ hb hx Try.underlying43 rfl (by kernel_rfl) h
theorem gm_loadF (p : Operand) (ho : o.op = .load 41 p) (b off : Nat) (f : Nat → Nat) (cs : Array Value) (hb : W.heap[b]? = some (.cells cs 43 (0, 0))) (hs : ∀ (j : Nat) (v : Value), (ecell f).toList[j]? = some v → cs[off + j]? = some v) (hx : a.eval p = .pointer (some ⟨b, off, none⟩))
    (h : wpG Try.prog W [] T L F N (a.put o.dst (.agg (ecell f)))) : wpG Try.prog W [] T ((o, .flo) :: L) F N a :=
  ⟨_, fun w hw => .inl <| by
    unfold execOp
    simp only [ho, hx, Instr.loadAt, Instr.sureAddr, Sem.run_bind, Sem.run_pure, Result.andThen_ok, run_loadVar_sub w b off 43 41 cs (ecell f).toList (0, 0) _ (hw.at (fun h => by cases h) hb) hs Try.underlying41 rfl (by kernel_rfl)], h⟩
theorem gm_field (i off : Nat) (p : Operand) (ho : o.op = .fieldAddr 43 p i) (b : Nat) (hx : a.eval p = .pointer (some ⟨b, 0, none⟩)) (hr : ∀ w, (Instr.fieldAt 43 (.pointer (some ⟨b, 0, none⟩)) i).run Try.prog w = .ok (.pointer (some ⟨b, off, none⟩)) w)
    (h : wpG Try.prog W S T L F N (a.put o.dst (.pointer (some ⟨b, off, none⟩)))) : wpG Try.prog W S T ((o, .flo) :: L) F N a :=
  ⟨_, fun w _ => .inl <| by unfold execOp; simp only [ho, hx, Sem.run_bind, hr, Result.andThen_ok, Sem.run_pure], h⟩
theorem gm_build {ty : TypeId} {ps : List (Nat × Operand)} (vs : List (Nat × Value)) (ho : o.op = .build ty ps.toArray) (hv : ps.map (fun p => (p.1, a.eval p.2)) = vs) (v : Value) (hr : ∀ w, (Instr.build ty vs.toArray).run Try.prog w = .ok v w)
    (h : wpG Try.prog W S T L F N (a.put o.dst v)) : wpG Try.prog W S T ((o, .flo) :: L) F N a :=
  ⟨v, fun w _ => .inl <| by
    subst hv
    have := hr w
    rw [← List.map_toArray] at this
    unfold execOp
    simp only [ho, Sem.run_bind]
    rw [this]
    simp [Result.andThen_ok, Sem.run_pure], h⟩
end
theorem wpList_loadP {ops : Array Oper} {rest : List Oper} {o : Oper} {a : Act} {w : World} {Q : Exit → Act → World → Prop} (hgd : o.guard = none) (p : Operand) (ho : o.op = .load 43 p)
    (g : Nat) (cs : Array Value) (hsz : cs.size = 20) (hg : w.heap[g]? = some (.cells cs 43 (0, 0))) (hx : a.eval p = .pointer (some ⟨g, 0, none⟩))
    (h : wpList Try.prog ops Q rest (a.put o.dst (.agg cs)) w) : wpList Try.prog ops Q (o :: rest) a w :=
  wpList_load_row hgd 43 p ho g hx 43 cs (0, 0) _ hg Try.underlying43 rfl (by rw [hsz]; kernel_rfl) h
theorem wpList_storeP {ops : Array Oper} {rest : List Oper} {o : Oper} {a : Act} {w : World} {Q : Exit → Act → World → Prop} (hgd : o.guard = none) (p y : Operand) (ho : o.op = .store 43 p y)
    (g : Nat) (x' y' z' t' : Nat → Nat) (old : Array Value) (hsz : old.size = 20) (hg : w.heap[g]? = some (.cells old 43 (0, 0))) (hx : a.eval p = .pointer (some ⟨g, 0, none⟩)) (hy : a.eval y = .agg (pcell x' y' z' t'))
    (h : wpList Try.prog ops Q rest (a.put o.dst undef) (w.setRow g (pcell x' y' z' t'))) : wpList Try.prog ops Q (o :: rest) a w :=
  wpList_store_row hgd 43 p y ho g (pcell x' y' z' t') hx hy 43 old hg (by kernel_rfl) hsz (pcell_one _ _ _ _) h
end Go.Proofs.Ytpgichfagodkpaa.Fe

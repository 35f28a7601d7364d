/- The evaluator's soundness, second part: calls, builtins, appends and the memory that a call owns. Conditions: those that each theorem names. -/
import Derived.Test.YtcdkljinnmphjaaVA
import Derived.Laws.CopyRow
import Derived.Deep.AppendSrc
namespace Go.V
section
variable {P : Program} {N : Nat} {st : St} {a : Act} {hv : List Value} {w : World} {g : G} {K : AV → R} {r : List AO × List AO} {o : Oper} {next : Act → World → Prop} {Q : Exit → Act → World → Prop} {call : CallF}

theorem evQ_makeSlice (h : Good P N st a hv w g) {T : TypeId} {n c : Operand} (hop : o.op = .makeSlice T n c) (hok : opOk N o) (hk : evQ P call o st K = some r) (hpost : Then P st a w g K r o next) : o.wp P a w next Q := by
  simp only [evQ, hop] at hk
  have hn := hok n (by simp [hop, Op.operands])
  have hc := hok c (by simp [hop, Op.operands])
  split at hk
  · rename_i E A B hT hA hB
    obtain ⟨kl, l, rfl, hl⟩ := h.rdInt hn hA
    obtain ⟨kc, m, rfl, hm⟩ := h.rdInt hc hB
    split at hk
    · rename_i z hz
      obtain ⟨hcd, hk⟩ := guardB_true hk
      simp only [Bool.and_eq_true] at hcd
      obtain ⟨⟨hzo, c0⟩, c1, c2, c3⟩ := hcd
      have c0 : 0 ≤ l := of_decide_eq_true c0
      have c1 : l ≤ m := of_decide_eq_true c1
      have c2 : m ≤ 140737488355328 := of_decide_eq_true c2
      have c3 : (P.bytesOf E : Int) * m ≤ 140737488355328 := of_decide_eq_true c3
      obtain ⟨zv, hzr, hzp, i, hi, hiz⟩ := zeroPV_sound (w := w) (g := g) hz
      simp only [zeroOk, hi, hiz] at hzo
      have hzo' := Nat.eq_of_beq_eq_true hzo
      have hsz : P.cellsOf E = i.size := by simp [Program.cellsOf, hi]
      have hby : P.bytesOf E = i.bytes := by simp [Program.bytesOf, hi]
      rw [hby] at c3
      have hrun := run_make (P := P) w T E i zv (tyOf_sl hT) hi hiz kl kc l m c0 c1 (by omega) (by omega)
      have hrun' : (execOp a.eval o).run P w = .ok (.value (.slice (some ⟨w.heap.size, 0, none⟩) l.toNat m.toNat)) (w.alloc (.cells (madeCells zv.cells (m.toNat * i.size)) E)) := by
        have : execOp a.eval o = (do pure (Next.value (← Instr.makeSlice T (a.eval n) (a.eval c)))) := by simp only [execOp, hop]
        rw [this, hl, hm, Sem.run_bind, hrun]; rfl
      simp only [PV.toInt] at hk
      refine alloc_done h (x := .arr E (List.replicate l.toNat z)) (fun _ => .slice (some ⟨w.heap.size, 0, none⟩) l.toNat m.toNat) hrun' rfl (fun d => ?_) hk hpost
      have := ORep.arr (P := P) (w := w.alloc (.cells (madeCells zv.cells (m.toNat * i.size)) E)) (g := g.newAt w.heap.size (some d) fun _ => .slice (some ⟨w.heap.size, 0, none⟩) l.toNat m.toNat) (s := d) [] E (List.replicate l.toNat z)
        w.heap.size 0 m.toNat (madeCells zv.cells (m.toNat * i.size)).toList (fun _ => zv) E (by simp [G.newAt, G.setVal]) (heap_alloc_new w _) (by simp [G.newAt]) (by simp; omega) (by simp [size_madeCells, hsz])
        (fun j y hj => ?_) (fun j hj q hq => ?_)
      · exact this
      · rw [List.getElem?_replicate] at hj
        split at hj
        · cases hj; exact hzp.alloc _ _ _
        · cases hj
      · simp only [List.length_replicate] at hj
        rw [hsz] at hq ⊢
        have hlt : j * i.size + q < m.toNat * i.size := by
          have h1 : (j + 1) * i.size ≤ m.toNat * i.size := Nat.mul_le_mul_right _ (by omega)
          rw [Nat.add_mul, Nat.one_mul] at h1; omega
        have hmod : (j * i.size + q) % i.size = q := by rw [Nat.mul_comm, Nat.mul_add_mod]; exact Nat.mod_eq_of_lt hq
        rw [Nat.zero_add]
        have : (madeCells zv.cells (m.toNat * i.size)).toList[j * i.size + q]? = (madeCells zv.cells (m.toNat * i.size))[j * i.size + q]? := by simp
        rw [this]
        simp only [madeCells, Array.getElem?_map]
        have hr : (Array.range (m.toNat * i.size))[j * i.size + q]? = some (j * i.size + q) := by
          rw [Array.getElem?_range, if_pos hlt]
        rw [hr]
        simp only [Option.map_some, hzo', hmod]
        rw [getElem!_pos zv.cells q (by omega), Array.getElem?_eq_getElem (by omega)]
    · cases hk
  · cases hk

theorem mapM_some {α β : Type} {f : α → Option β} : ∀ {l : List α} {r : List β}, l.mapM f = some r → r.length = l.length ∧ ∀ (i : Nat) (x : α), l[i]? = some x → ∃ y, r[i]? = some y ∧ f x = some y
  | [], r, h => by simp at h; subst h; simp
  | x :: l, r, h => by
    simp only [List.mapM_cons, Option.bind_eq_bind, Option.bind_eq_some_iff] at h
    obtain ⟨y, hy, ys, hys, h⟩ := h
    simp at h
    subst h
    obtain ⟨h1, h2⟩ := mapM_some hys
    refine ⟨by simp [h1], fun i z hz => ?_⟩
    cases i with
    | zero => simp at hz; subst hz; exact ⟨y, by simp, hy⟩
    | succ i => simp at hz; simpa using h2 i z hz

theorem evQ_buildSlice (h : Good P N st a hv w g) {T : TypeId} {n : Nat} {ps : Array (Nat × Operand)} (hop : o.op = .buildSlice T n ps) (hok : opOk N o) (hk : evQ P call o st K = some r) (hpost : Then P st a w g K r o next) : o.wp P a w next Q := by
  simp only [evQ, hop] at hk
  have hx : ∀ p ∈ ps.toList, tmpOk N p.2 = true := fun p hp => hok p.2 (by
    simp only [hop, Op.operands, List.mem_toArray, List.mem_map]; exact ⟨p, hp, rfl⟩)
  split at hk
  · rename_i E hT
    split at hk
    · rename_i vs hvs
      obtain ⟨hcd, hk⟩ := guardB_true hk
      simp only [Bool.and_eq_true] at hcd
      obtain ⟨⟨c1, c2⟩, c3, c4, c5, c6, c7⟩ := hcd
      have c1 := Nat.eq_of_beq_eq_true c1
      have c2 := Nat.eq_of_beq_eq_true c2
      have c4 := of_decide_eq_true c4
      have c5 := of_decide_eq_true c5
      have c6 := of_decide_eq_true c6
      obtain ⟨m1, m2⟩ := mapM_some hvs
      unfold zeroOk at c7
      split at c7
      · rename_i ie hi
        split at c7
        · rename_i zv hiz
          have hzo := Nat.eq_of_beq_eq_true c7
          have hsz : P.cellsOf E = ie.size := by simp [Program.cellsOf, hi]
          have hlen : ps.toList.length = n := by omega
          -- the parts' values
          have hrep : ∀ (i : Nat) (p : Nat × Operand), ps.toList[i]? = some p → ∃ y, vs[i]? = some y ∧ PRep P w g (tyOf P E) y (a.eval p.2) := by
            intro i p hp
            obtain ⟨y, hy, hrd⟩ := m2 i p hp
            exact ⟨y, hy, h.rd (hx p (List.mem_of_getElem? hp)) hrd⟩
          have hcs : ∀ v ∈ ps.toList.map (fun p => a.eval p.2), v.cells.size = ie.size := by
            intro v hv
            obtain ⟨p, hp, rfl⟩ := List.mem_map.1 hv
            obtain ⟨i, hi'⟩ := List.getElem?_of_mem hp
            obtain ⟨y, _, hy⟩ := hrep i p hi'
            rw [(cells_of_prep hy c3).2.1, ← c2, hsz]
          have hparts : (ps.map fun x => (x.1, a.eval x.2)).toList = ((ps.toList.map fun p => a.eval p.2).zipIdx 0).map fun x => (x.2, x.1) := by
            apply List.ext_getElem?
            intro i
            simp only [Array.toList_map, List.getElem?_map, List.getElem?_zipIdx]
            cases hp : ps.toList[i]? with
            | none => simp
            | some p =>
              have : (ps.toList.map (·.1))[i]? = (List.range n)[i]? := by rw [c4]
              have hlt := (List.getElem?_eq_some_iff.1 hp).1
              rw [List.getElem?_map, hp, List.getElem?_range (by omega)] at this
              simp only [Option.map_some, Option.some.injEq] at this
              simp [this]
          obtain ⟨rr, hf, hrs, hrk⟩ := Great.fill_dense (s := ie.size) (by omega) (ps.toList.map fun p => a.eval p.2) 0 ((Array.range (n * ie.size)).map ((if n * ie.size = 0 then #[] else zv.cells)[· % (if n * ie.size = 0 then #[] else zv.cells).size]!)) hcs (by simp [hlen])
          have hrun : (execOp a.eval o).run P w = .ok (.value (.slice (some ⟨w.heap.size, 0, none⟩) n n)) (w.alloc (.cells rr E)) := by
            have hz : (zeroValue E).run P w = .ok zv w := by simp [zeroValue, typeInfo, hi, hiz]
            have hso : (sizeOf E).run P w = .ok ie.size w := by simp [sizeOf, typeInfo, hi]
            have : (Instr.buildSlice T n (ps.map fun (i, x) => (i, a.eval x))).run P w = .ok (.slice (some ⟨w.heap.size, 0, none⟩) n n) (w.alloc (.cells rr E)) := by
              have h24 : ¬ (n * ie.size > 2 ^ 24) := by rw [← hsz]; omega
              simp only [Instr.buildSlice, Sem.run_bind, run_underlying (tyOf_sl hT), Result.andThen_ok, hso, if_neg h24, hparts]
              by_cases h0 : n * ie.size = 0
              · simp only [h0, if_true] at hf ⊢
                simp only [Sem.run_pure, Result.andThen_ok, hf, newRow, Sem.run_bind, run_newObj]; rfl
              · simp only [h0, if_false] at hf ⊢
                simp only [Sem.run_bind, hz, Sem.run_pure, Result.andThen_ok, hf, newRow, run_newObj]; rfl
            have e : execOp a.eval o = (do pure (Next.value (← Instr.buildSlice T n (ps.map fun (i, x) => (i, a.eval x))))) := by simp only [execOp, hop]
            rw [e, Sem.run_bind, this]; rfl
          refine alloc_done h (x := .arr E vs) (fun _ => .slice (some ⟨w.heap.size, 0, none⟩) n n) hrun rfl (fun d => ?_) hk hpost
          have hn : vs.length = n := by omega
          have := ORep.arr (P := P) (w := w.alloc (.cells ⟨rr.toList⟩ E)) (g := g.newAt w.heap.size (some d) fun _ => .slice (some ⟨w.heap.size, 0, none⟩) n n) (s := d) [] E vs
            w.heap.size 0 n rr.toList (fun i => (ps.toList.map fun p => a.eval p.2).getD i undef) E (by simp [G.newAt, G.setVal, hn]) (heap_alloc_new w _) (by simp [G.newAt]) (by omega) (by simp [hrs, hsz])
            (fun j y hj => ?_) (fun j hj q hq => ?_)
          · exact this
          · have hlt := (List.getElem?_eq_some_iff.1 hj).1
            have hp := List.getElem?_eq_getElem (show j < ps.toList.length by omega)
            obtain ⟨y', hy', hpr⟩ := hrep j _ hp
            rw [hj] at hy'; cases hy'
            have : (ps.toList.map fun p => a.eval p.2).getD j undef = a.eval ps.toList[j].2 := by simp only [List.getD, List.getElem?_map, hp]; rfl
            rw [this]
            exact hpr.alloc _ _ _
          · rw [hsz] at hq ⊢
            have hp := List.getElem?_eq_getElem (show j < ps.toList.length by omega)
            have e : rr.toList[0 + j * ie.size + q]? = rr[0 + j * ie.size + q]? := by simp
            have hdiv : (0 + j * ie.size + q) / ie.size - 0 = j := by
              rw [Nat.zero_add, Nat.sub_zero, Nat.mul_comm, Nat.mul_add_div (by omega), Nat.div_eq_of_lt hq]; rfl
            have hmod : (0 + j * ie.size + q) % ie.size = q := by rw [Nat.zero_add, Nat.mul_comm, Nat.mul_add_mod]; exact Nat.mod_eq_of_lt hq
            have hlt : j * ie.size + q < n * ie.size := by
              have h1 : (j + 1) * ie.size ≤ n * ie.size := Nat.mul_le_mul_right _ (by omega)
              rw [Nat.add_mul, Nat.one_mul] at h1; omega
            rw [e, hrk, hdiv, hmod, if_pos (by simp [hlen]; omega)]
            simp only [List.getElem?_map, List.getD, hp, Option.map_some, Option.bind_some, Option.getD_some]
        · cases c7
      · cases c7
    · cases hk
  · cases hk

end
end Go.V

namespace Go.V

def nLent : List AO → Nat
  | [] => 0
  | .pv _ _ :: r => nLent r
  | _ :: r => nLent r + 1

/-- Arguments: pure ones; lent objects, number k and so on. -/
def ArgsRep (P : Program) (w : World) (g : G) : Nat → List AO → List Value → Prop
  | _, [], [] => True
  | k, .pv t x :: as, v :: vs => PRep P w g t x v ∧ ArgsRep P w g k as vs
  | k, x :: as, v :: vs => x ≠ .dead ∧ ORep P w g k [] x ∧ v = g.val k [] ∧ ArgsRep P w g (k + 1) as vs
  | _, _, _ => False

def ResRep (P : Program) (w : World) (g : G) (L : Nat) : List AO → Value → Prop
  | [x], v => ORep P w g L [] x ∧ (x ≠ .dead → v = g.val L [])
  | xs, v => ∃ vs, v = .tuple ⟨vs⟩ ∧ vs.length = xs.length ∧ ∀ (i : Nat) (x : AO) (v : Value), xs[i]? = some x → vs[i]? = some v → ∃ t y, x = .pv t y ∧ PRep P w g t y v

/-- What a call does. -/
def CallPost (P : Program) (w : World) (g : G) (as res back : List AO) (e : Ending) (w' : World) : Prop :=
  ∃ v g', e = .returned v ∧ Fr w g w' g' ∧ ResRep P w' g' (nLent as) res v ∧ (∀ b s p, g'.tag b = .own s p → s ≤ nLent as) ∧
    back.length = nLent as ∧ ∀ (i : Nat) (y : AO), back[i]? = some y → ORep P w' g' i [] y ∧ (y ≠ .dead → g'.val i [] = g.val i [])

/-- A call of a function with a body, or of one that the model runs here and now. -/
def CallsAny (P : Program) (f : FuncId) (args : Array Value) (w : World) (R : Ending → World → Prop) : Prop :=
  (∃ fn, P.funcs[f]? = some fn ∧ fn.body.isSome = true ∧ fn.name ≠ "runtime.NumGoroutine" ∧ Calls P f args w R) ∨
    ∃ v w', (callFunc f args).run P w = .ok (.value v) w' ∧ R (.returned v) w'

structure CallOk (P : Program) (call : CallF) : Prop where
  ok : ∀ f as res back, call f as = some (res, back) → ∀ vals w g, ArgsRep P w g 0 as vals → (∀ b, w.heap.size ≤ b → g.tag b = .free) → VarsOk P w g → (∀ b s p, g.tag b = .own s p → s < nLent as) →
    CallsAny P f ⟨vals⟩ w (CallPost P w g as res back)

section
variable {P : Program} {N : Nat} {st : St} {a : Act} {hv : List Value} {w : World} {g : G} {K : AV → R} {r : List AO × List AO} {o : Oper} {next : Act → World → Prop} {Q : Exit → Act → World → Prop} {call : CallF}

theorem run_builtin {c : Call} (hop : o.op = .call c) {b : Builtin} (hb : c.callee = .builtin b) {v : Value} (hrun : ∀ cs, (builtin b c.argTypes o.type cs (c.args.map a.eval)).run P w = .ok (.value v) w) :
    (execOp a.eval o).run P w = .ok (.value v) w := by
  have e : execOp a.eval o = (do let d ← resolve a.eval c o.type; invoke d.target d.args) := by simp only [execOp, hop]
  rw [e, Sem.run_bind]
  have : (resolve a.eval c o.type).run P w = .ok { target := .builtin b c.argTypes o.type (c.args.map fun | .const _ => true | _ => false), args := c.args.map a.eval } w := by
    simp only [resolve, hb, Sem.run_pure]; rfl
  rw [this, Result.andThen_ok]
  exact hrun _

theorem evQ_len (h : Good P N st a hv w g) {c : Call} (hop : o.op = .call c) (hb : c.callee = .builtin .len) (hok : opOk N o) (hk : evQ P call o st K = some r) (hpost : Then P st a w g K r o next) : o.wp P a w next Q := by
  simp only [evQ, hop, hb] at hk
  split at hk
  · rename_i T x hT hx
    have hxo : tmpOk N x = true := hok x (by
      simp only [hop, Op.operands, Call.operands, hb]
      simp only [List.append_toArray, Array.mem_append]
      exact .inr (Array.mem_of_getElem? hx))
    have hax : (c.args.map a.eval)[0]? = some (a.eval x) := by simp [hx]
    split at hk
    · rename_i hTy
      split at hk
      · rename_i v hv'
        obtain ⟨s, rfl, hs⟩ := (hTy ▸ h.rd hxo hv').str_inv
        refine pure_done h (run_builtin hop hb fun cs => ?_) (.int .i64 _) hk hpost
        simp only [builtin, Sem.run_bind, Builtin.len_, hT, hax, run_underlying (tyOf_str hTy), Result.andThen_ok, hs, Sem.run_pure, goInt]; rfl
      · cases hk
    · rename_i E hTy
      split at hk
      · rename_i l hl
        have : ∃ ad cap, a.eval x = .slice ad l.length cap := by
          rcases rdList_sound h hxo hl with ⟨rfl, ad, hv'⟩ | ⟨b, off, cap, f, hv', _⟩
          · exact ⟨ad, 0, hv'⟩
          · exact ⟨_, _, hv'⟩
        obtain ⟨ad, cap, hs⟩ := this
        refine pure_done h (run_builtin hop hb fun cs => ?_) (.int .i64 _) hk hpost
        simp only [builtin, Sem.run_bind, Builtin.len_, hT, hax, run_underlying (tyOf_sl hTy), Result.andThen_ok, hs, Sem.run_pure, goInt]
      · cases hk
    · cases hk
  · cases hk

theorem args_two {c : Call} {x y : Operand} (hc : c.args.toList = [x, y]) : c.args.map a.eval = #[a.eval x, a.eval y] := by
  apply Array.ext'; simp [hc]

theorem evQ_max (h : Good P N st a hv w g) {c : Call} (hop : o.op = .call c) (hb : c.callee = .builtin .max) (hok : opOk N o) (hk : evQ P call o st K = some r) (hpost : Then P st a w g K r o next) : o.wp P a w next Q := by
  simp only [evQ, hop, hb] at hk
  have hmem : ∀ x ∈ c.args.toList, tmpOk N x = true := fun x hx => hok x (by
    simp only [hop, Op.operands, Call.operands, hb, Array.mem_append]; exact .inr (Array.mem_toList_iff.1 hx))
  split at hk
  · rename_i x y hc
    have hx := hmem x (by simp [hc])
    have hy := hmem y (by simp [hc])
    split at hk
    · rename_i k A B hT hA hB
      obtain ⟨m, rfl, hm⟩ := (hT ▸ h.rd hx hA).int_inv
      obtain ⟨n, rfl, hn⟩ := (hT ▸ h.rd hy hB).int_inv
      refine pure_done h (run_builtin hop hb fun cs => ?_) (.int k _) hk hpost
      rw [args_two hc, hm, hn]
      simp only [builtin, Sem.run_bind, run_max_int2, Result.andThen_ok, Sem.run_pure]; rfl
    · cases hk
  · cases hk

theorem evQ_min (h : Good P N st a hv w g) {c : Call} (hop : o.op = .call c) (hb : c.callee = .builtin .min) (hok : opOk N o) (hk : evQ P call o st K = some r) (hpost : Then P st a w g K r o next) : o.wp P a w next Q := by
  simp only [evQ, hop, hb] at hk
  have hmem : ∀ x ∈ c.args.toList, tmpOk N x = true := fun x hx => hok x (by
    simp only [hop, Op.operands, Call.operands, hb, Array.mem_append]; exact .inr (Array.mem_toList_iff.1 hx))
  split at hk
  · rename_i x y hc
    have hx := hmem x (by simp [hc])
    have hy := hmem y (by simp [hc])
    split at hk
    · rename_i k A B hT hA hB
      obtain ⟨m, rfl, hm⟩ := (hT ▸ h.rd hx hA).int_inv
      obtain ⟨n, rfl, hn⟩ := (hT ▸ h.rd hy hB).int_inv
      refine pure_done h (run_builtin hop hb fun cs => ?_) (.int k _) hk hpost
      rw [args_two hc, hm, hn]
      simp only [builtin, Sem.run_bind, run_min_int2, Result.andThen_ok, Sem.run_pure]; rfl
    · cases hk
  · cases hk

theorem run_callFunc {c : Call} (hop : o.op = .call c) {f : FuncId} (hf : c.callee = .value (.func f)) {fn : Func} (h1 : P.funcs[f]? = some fn) (h2 : fn.body.isSome = true) (h3 : fn.name ≠ "runtime.NumGoroutine") :
    (execOp a.eval o).run P w = .ok (.enter f (c.args.map a.eval)) w := by
  have e : execOp a.eval o = (do let d ← resolve a.eval c o.type; invoke d.target d.args) := by simp only [execOp, hop]
  rw [e, Sem.run_bind]
  have : (resolve a.eval c o.type).run P w = .ok { target := .fn (.func f) #[], args := c.args.map a.eval } w := by
    simp only [resolve, hf, Act.eval, Deferred.ofValue, Sem.run_pure, Array.empty_append]
  rw [this, Result.andThen_ok]
  have hn : (fn.name == "runtime.NumGoroutine") = false := by simpa using h3
  have hb : fn.body.isNone = false := by cases hfb : fn.body <;> simp [hfb] at h2 ⊢
  simp only [invoke, callFunc, Sem.run_bind, run_program, Result.andThen_ok, h1, hn, hb, Bool.false_eq_true, if_false, Sem.run_pure, Array.append_empty]

theorem run_callAny {c : Call} (hop : o.op = .call c) {f : FuncId} (hf : c.callee = .value (.func f)) {v : Value} {w' : World} (h : (callFunc f (c.args.map a.eval)).run P w = .ok (.value v) w') :
    (execOp a.eval o).run P w = .ok (.value v) w' := by
  have e : execOp a.eval o = (do let d ← resolve a.eval c o.type; invoke d.target d.args) := by simp only [execOp, hop]
  rw [e, Sem.run_bind]
  have : (resolve a.eval c o.type).run P w = .ok { target := .fn (.func f) #[], args := c.args.map a.eval } w := by
    simp only [resolve, hf, Act.eval, Deferred.ofValue, Sem.run_pure, Array.empty_append]
  rw [this, Result.andThen_ok]
  simp only [invoke, Array.append_empty]
  exact h

/-- The step of a call. -/
theorem wp_call {c : Call} (hop : o.op = .call c) {f : FuncId} (hf : c.callee = .value (.func f)) {R : Ending → World → Prop} (hc : CallsAny P f (c.args.map a.eval) w R)
    (hr : ∀ e w', R e w' → ∃ v, e = .returned v ∧ next (a.put o.dst v) w') : o.wp P a w next Q := by
  unfold Oper.wp
  rcases hc with ⟨fn, f1, f2, f3, hc⟩ | ⟨v, w', hrun, hR⟩
  · rw [run_callFunc hop hf f1 f2 f3, Oper.upon_enter]
    refine hc.mono ?_
    intro e w' h
    obtain ⟨v, rfl, hn⟩ := hr e w' h
    exact hn
  · rw [run_callAny hop hf hrun, Oper.upon_value]
    obtain ⟨v', hv, hn⟩ := hr _ _ hR
    cases hv
    exact hn

/-- All arguments pure. -/
theorem argsRep_pure {P : Program} {w : World} {g : G} {T : TypeId → Ty} : ∀ {l : List (Operand × TypeId)} {as : List AO} {k : Nat} {ev : Operand → Value}, (∀ (i : Nat) (p : Operand × TypeId), l[i]? = some p → ∃ v, as[i]? = some (.pv (T p.2) v) ∧ PRep P w g (T p.2) v (ev p.1)) → as.length = l.length →
    ArgsRep P w g k as (l.map fun p => ev p.1) ∧ nLent as = 0
  | [], [], k, ev, _, _ => ⟨trivial, rfl⟩
  | [], _ :: _, _, _, _, hl => by simp at hl
  | _ :: _, [], _, _, _, hl => by simp at hl
  | p :: l, x :: as, k, ev, h, hl => by
    obtain ⟨v, hv, hp⟩ := h 0 p rfl
    simp at hv; subst hv
    obtain ⟨h1, h2⟩ := argsRep_pure (l := l) (as := as) (k := k) (ev := ev) (T := T) (fun i q hq => by simpa using h (i + 1) q (by simpa using hq)) (by simpa using hl)
    exact ⟨⟨hp, h1⟩, by simpa [nLent] using h2⟩

/-- The ghosts that a callee sees that is lent nothing. -/
def G.hide (g : G) : G := { g with tag := fun b => match g.tag b with | .own _ _ => .out | t => t }

/-- The ghosts behind such a call. -/
def G.back (g g' : G) (n : Nat) (d : Option Nat) : G :=
  { tag := fun b => if b < n then g.tag b else match g'.tag b with | .own _ p => (match d with | some d => .own d p | none => .free) | t => t,
    val := (g.setVal d fun p => g'.val 0 p).val }

theorem okTup_spec : ∀ {ts : List Ty} {xs : List AO} {c : Option (List AO × List AO)} {k : Nat}, okTup ts xs = true → (∀ i, nth .dead xs i = (match c with | some (ys, _) => nth .dead ys (k + i) | none => .dead)) → tupOf c ts k = xs
  | [], [], c, k, _, _ => rfl
  | [], _ :: _, c, k, h, _ => by simp [okTup] at h
  | t :: ts, [], c, k, h, _ => by simp [okTup] at h
  | t :: ts, x :: xs, c, k, h, hx => by
    cases x with
    | pv u v =>
      simp only [okTup, Bool.and_eq_true] at h
      have hu := Ty.eq_of h.1
      subst hu
      have h0 := hx 0
      simp only [tupOf]
      have ih := okTup_spec (c := c) (k := k + 1) h.2 (fun i => by
        have := hx (i + 1)
        rw [show k + 1 + i = k + (i + 1) by omega]; exact this)
      rw [ih]
      congr 2
      cases c with
      | none => simp [nth] at h0
      | some r =>
        obtain ⟨ys, b⟩ := r
        simp only [Nat.add_zero] at h0
        simp only [resAt, ← h0, nth, aoPV]
    | box _ _ => simp [okTup] at h
    | arr _ _ => simp [okTup] at h
    | dead => simp [okTup] at h

theorem retQ_inv {α : Type} {P : Program} {T : TypeId} {c : Option (List AO × List AO)} {K : AV → Option α} {r : α} (h : retQ P T c K = some r) :
    ∃ res back av, c = some (res, back) ∧ K av = some r ∧ ((∃ x, res = [x] ∧ av = .o x) ∨ (av = .tup res ∧ res.length ≠ 1)) := by
  have one : ∀ t, okRes t c = true → ∃ b, c = some ([.pv t (resPV c)], b) := by
    intro t ho
    unfold okRes at ho
    split at ho
    · rename_i u v b
      have := Ty.eq_of ho
      subst this
      exact ⟨b, rfl⟩
    · cases ho
  unfold retQ at h
  split at h
  · rename_i ts hT
    cases hc : (!Nat.beq ts.size 1 && okMany (ts.toList.map (tyOf P)) c) with
    | false => rw [hc] at h; cases h
    | true =>
      rw [hc] at h
      simp only [Bool.and_eq_true, Bool.not_eq_true', nbeq, decide_eq_false_iff_not] at hc
      cases c with
      | none => simp [okMany] at hc
      | some r' =>
        obtain ⟨xs, b⟩ := r'
        have := okTup_spec (c := some (xs, b)) (k := 0) hc.2 (fun i => by simp)
        rw [this] at h
        refine ⟨xs, b, _, rfl, h, .inr ⟨rfl, ?_⟩⟩
        have hl : ∀ {ts : List Ty} {xs : List AO}, okTup ts xs = true → xs.length = ts.length := by
          intro ts
          induction ts with
          | nil => intro xs hx; cases xs with
            | nil => rfl
            | cons => simp [okTup] at hx
          | cons t ts ih => intro xs hx; cases xs with
            | nil => simp [okTup] at hx
            | cons x xs => cases x <;> simp [okTup] at hx; simp [ih hx.2]
        have := hl hc.2
        simp at this
        omega
  · rename_i E hT
    cases hc : okRes (.sl E) c with
    | true =>
      rw [hc] at h
      obtain ⟨b, hb⟩ := one _ hc
      exact ⟨_, b, _, hb, h, .inl ⟨_, rfl, rfl⟩⟩
    | false =>
      rw [hc] at h
      cases hc2 : okArr E c with
      | false => rw [hc2] at h; cases h
      | true =>
        rw [hc2] at h
        unfold okArr at hc2
        split at hc2
        · rename_i E' l b
          have := Nat.eq_of_beq_eq_true hc2
          subst this
          exact ⟨_, b, _, rfl, h, .inl ⟨_, rfl, rfl⟩⟩
        · cases hc2
  · simp only [Option.bind_eq_some_iff] at h
    obtain ⟨⟨xs, b⟩, hc, h⟩ := h
    split at h
    · rename_i x hx
      simp only at hx
      exact ⟨xs, b, _, hc, h, .inl ⟨x, hx, rfl⟩⟩
    · cases h
  · cases hc : okRes (tyOf P T) c with
    | false => rw [hc] at h; cases h
    | true =>
      rw [hc] at h
      obtain ⟨b, hb⟩ := one _ hc
      exact ⟨_, b, _, hb, h, .inl ⟨_, rfl, rfl⟩⟩

theorem evQ_call (hcall : CallOk P call) (h : Good P N st a hv w g) {c : Call} (hop : o.op = .call c) {f : FuncId} (hf : c.callee = .value (.func f)) (hok : opOk N o) (hk : evQ P call o st K = some r) (hpost : Then P st a w g K r o next) : o.wp P a w next Q := by
  simp only [evQ, hop, hf] at hk
  have hmem : ∀ x ∈ c.args.toList, tmpOk N x = true := fun x hx => hok x (by
    simp only [hop, Op.operands, Call.operands, hf, Array.mem_append]; exact .inr (Array.mem_toList_iff.1 hx))
  split at hk
  · rename_i as has
    cases hlen : Nat.beq as.length c.args.size with
    | false => simp [hlen] at hk
    | true =>
      simp only [hlen, cond_true] at hk
      have hlen' := Nat.eq_of_beq_eq_true hlen
      obtain ⟨res, back, av, hcf, hk, hav⟩ := retQ_inv hk
      obtain ⟨m1, m2⟩ := mapM_some has
      have hzl : (c.args.toList.zip c.argTypes.toList).map (fun p => a.eval p.1) = (c.args.map a.eval).toList := by
        simp only [List.length_zip, Array.length_toList] at m1
        have h1 : (c.args.toList.zip c.argTypes.toList).map Prod.fst = c.args.toList := List.map_fst_zip (by simp; omega)
        rw [Array.toList_map, ← h1, List.map_map, h1]; rfl
      have hpr : ∀ b, b < w.heap.size → g.tag b = .free → g.hide.tag b = .free ∧ w.heap[b]? = w.heap[b]? := fun b _ hb => ⟨by simp [G.hide, hb], rfl⟩
      obtain ⟨hargs, hl0⟩ := argsRep_pure (P := P) (w := w) (g := g.hide) (T := tyOf P) (l := c.args.toList.zip c.argTypes.toList) (as := as) (k := 0) (ev := a.eval) (fun i p hp => by
        obtain ⟨y, hy, hy2⟩ := m2 i p hp
        simp only [Option.map_eq_some_iff] at hy2
        obtain ⟨v, hv', rfl⟩ := hy2
        refine ⟨v, hy, (h.rd (hmem p.1 ?_) hv').ext (Nat.le_refl _) hpr⟩
        exact (List.of_mem_zip (List.mem_of_getElem? hp)).1) m1
      rw [hzl] at hargs
      have hfresh : ∀ b, w.heap.size ≤ b → g.hide.tag b = .free := fun b hb => by simp [G.hide, h.inv.fresh b hb]
      have hown : ∀ b s p, g.hide.tag b ≠ .own s p := by
        intro b s p; simp only [G.hide]; cases g.tag b <;> simp
      refine wp_call hop hf (hcall.ok f as res back hcf _ w g.hide hargs hfresh (h.inv.vars.keep (Nat.le_refl _) hpr) (fun b s p hb => absurd hb (hown b s p))) ?_
      rintro e w' ⟨v, g', rfl, fr, hres, htag, _, _⟩
      refine ⟨v, rfl, ?_⟩
      have hold : ∀ b, b < w.heap.size → w'.heap[b]? = w.heap[b]? ∧ (g'.tag b = .free → g.tag b = .free) := by
        intro b hb
        cases ht : g.tag b with
        | free => exact ⟨(fr.free b hb (by simp [G.hide, ht])).2, fun _ => rfl⟩
        | out => obtain ⟨h1, h2⟩ := fr.out b hb (by simp [G.hide, ht]); exact ⟨h2, fun h => by rw [h1] at h; cases h⟩
        | own s p => obtain ⟨h1, h2⟩ := fr.out b hb (by simp [G.hide, ht]); exact ⟨h2, fun h => by rw [h1] at h; cases h⟩
      have hq : QFr w g w' (g.back g' w.heap.size o.dst) o.dst := by
        refine ⟨fr.os, fr.tape, fr.output, fr.size, fun b hb => ⟨by simp [G.back, hb], (hold b hb).1⟩, fun s p hd => by simp [G.back, G.setVal, hd], fun b hb => ?_, fun b hb => ?_⟩
        · simp only [G.back]
          rw [if_neg (by omega)]
          cases ht : g'.tag b with
          | free => simp
          | out => have := (fr.noOut b ht).2; omega
          | own s p => cases o.dst <;> simp
        · have := fr.size
          simp only [G.back]
          rw [if_neg (by omega), fr.fresh b hb]
      have hpf : ∀ b, b < w'.heap.size → g'.tag b = .free → (g.back g' w.heap.size o.dst).tag b = .free ∧ w'.heap[b]? = w'.heap[b]? := by
        intro b hb ht
        refine ⟨?_, rfl⟩
        simp only [G.back]
        by_cases hlt : b < w.heap.size
        · rw [if_pos hlt]; exact (hold b hlt).2 ht
        · rw [if_neg hlt, ht]
      rw [hl0] at hres htag
      have htup : ∀ xs : List AO, (∃ vs, v = .tuple ⟨vs⟩ ∧ vs.length = xs.length ∧ ∀ (i : Nat) (x : AO) (v : Value), xs[i]? = some x → vs[i]? = some v → ∃ t y, x = .pv t y ∧ PRep P w' g' t y v) →
          ∀ i, SRep P w' (g.back g' w.heap.size o.dst) st i (.tup xs) v := by
        rintro xs ⟨vs, rfl, h1, h2⟩ i
        refine .tup xs vs h1 (fun j x u hx hu => ?_)
        obtain ⟨t, y, e1, e2⟩ := h2 j x u hx hu
        exact ⟨t, y, e1, e2.ext (Nat.le_refl _) hpf⟩
      rcases hav with ⟨x, rfl, rfl⟩ | ⟨rfl, hne⟩
      · obtain ⟨ho, hv'⟩ := hres
        refine hpost (.o x) v w' _ hq (fun i hi => ?_) hk
        refine .o x v (fun hd => by simp [G.back, G.setVal, hi, hv' hd]) ?_
        refine ho.ext (s' := i) (p' := []) (Nat.le_refl _) hpf (fun q => by simp [G.back, G.setVal, hi]) (fun b q hb ht => ⟨?_, rfl⟩)
        have hge : ¬ b < w.heap.size := by
          intro hlt
          cases htb : g.tag b with
          | free => have := (fr.free b hlt (by simp [G.hide, htb])).1; rw [this] at ht; cases ht
          | out => have := (fr.out b hlt (by simp [G.hide, htb])).1; rw [this] at ht; cases ht
          | own s p => have := (fr.out b hlt (by simp [G.hide, htb])).1; rw [this] at ht; cases ht
        simp only [List.nil_append] at ht ⊢
        simp [G.back, hge, ht, hi]
      · refine hpost _ v w' _ hq (fun i hi => htup res ?_ i) hk
        match res, hne, hres with
        | [], _, hres => exact hres
        | [x], hne, _ => exact absurd rfl hne
        | x :: y :: zs, _, hres => exact hres
  · cases hk

end
end Go.V

namespace Go.V
section
variable {P : Program} {N : Nat} {st : St} {a : Act} {hv : List Value} {w : World} {g : G} {K : AV → R} {r : List AO × List AO} {o : Oper} {next : Act → World → Prop} {Q : Exit → Act → World → Prop} {call : CallF}

theorem evQ_sound (hcall : CallOk P call) (h : Good P N st a hv w g) (hok : opOk N o) (hk : evQ P call o st K = some r) (hpost : Then P st a w g K r o next) : o.wp P a w next Q := by
  have hk0 := hk
  cases hop : o.op with
  | move x => exact evQ_move h hop hok hk hpost
  | assign x => exact evQ_assign h hop hok hk hpost
  | pick c x y => exact evQ_pick h hop hok hk hpost
  | alloc E => exact evQ_alloc h hop hk hpost
  | box E x => exact evQ_box h hop hok hk hpost
  | build T ps => exact evQ_build h hop hok hk hpost
  | buildSlice T n ps => exact evQ_buildSlice h hop hok hk hpost
  | load T x => exact evQ_load h hop hok hk hpost
  | nilCheck x => exact evQ_nilCheck h hop hok hk hpost
  | binOp op t x y ty => exact evQ_binOp h hop hok hk hpost
  | unOp op t x => exact evQ_unOp h hop hok hk hpost
  | convert s d x => exact evQ_convert h hop hok hk hpost
  | makeInterface t x => exact evQ_makeInterface h hop hok hk hpost
  | makeSlice T n c => exact evQ_makeSlice h hop hok hk hpost
  | slice T x lo hi mx => exact evQ_slice h hop hok hk hpost
  | fieldAddr T x f => exact evQ_fieldAddr h hop hok hk hpost
  | field T x f => exact evQ_field h hop hok hk hpost
  | indexAddr T x i => exact evQ_indexAddr h hop hok hk hpost
  | index T x i => exact evQ_index h hop hok hk hpost
  | extract x i => exact evQ_extract h hop hok hk hpost
  | call c =>
    cases hc : c.callee with
    | builtin b =>
      cases b with
      | len => exact evQ_len h hop hc hok hk hpost
      | max => exact evQ_max h hop hc hok hk hpost
      | min => exact evQ_min h hop hc hok hk hpost
      | _ => simp [evQ, hop, hc] at hk0
    | value f =>
      cases f with
      | func f => exact evQ_call hcall h hop hc hok hk hpost
      | _ => simp [evQ, hop, hc] at hk0
    | invoke _ _ => simp [evQ, hop, hc] at hk0
  | _ => simp [evQ, hop] at hk0

end
end Go.V

namespace Go.V

/-- What refs to an object need of the one that takes its place. -/
structure Compat (x' x : AO) : Prop where
  live : x' ≠ .dead → x ≠ .dead
  box : ∀ E cs', x' = .box E cs' → ∃ E0 cs, x = .box E0 cs
  arr : ∀ E l, x' = .arr E l → ∃ l0, x = .arr E l0 ∧ l.length = l0.length

theorem Compat.refl (x : AO) : Compat x x := ⟨id, fun E cs h => ⟨E, cs, h⟩, fun _ l h => ⟨l, h, rfl⟩⟩

theorem at_dead (p : List Nat) : AO.at .dead p = .dead := by cases p <;> rfl

theorem at_append : ∀ (x : AO) (p q : List Nat), x.at (p ++ q) = (x.at p).at q
  | x, [], q => by simp [AO.at]
  | x, i :: p, q => by
    cases x with
    | box E cs => simp only [List.cons_append, AO.at]; exact at_append _ p q
    | pv t v => simp [AO.at, at_dead]
    | arr E l => simp [AO.at, at_dead]
    | dead => simp [AO.at, at_dead]

theorem nth_set {α : Type} (d : α) (l : List α) (i j : Nat) (x : α) : nth d (l.set i x) j = if j = i ∧ i < l.length then x else nth d l j := by
  simp only [nth_eq, List.getElem?_set]
  by_cases h : i = j
  · subst h
    by_cases hl : i < l.length
    · simp [hl]
    · simp [hl]
  · simp [h, Ne.symm h]

theorem upd_at_ext (y : AO) : ∀ (p : List Nat) (x : AO) (q : List Nat), x.at p ≠ .dead → (AO.upd y x p).at (p ++ q) = y.at q
  | [], x, q, _ => by simp [AO.upd]
  | i :: p, x, q, h => by
    cases x with
    | box E cs =>
      simp only [AO.at] at h
      have hi : i < cs.length := by
        rcases Nat.lt_or_ge i cs.length with h' | h'
        · exact h'
        · exfalso; apply h; rw [nth_eq, List.getElem?_eq_none h']; exact at_dead p
      simp only [AO.upd, List.cons_append, AO.at, nth_set, hi, and_self, if_true]
      exact upd_at_ext y p _ q h
    | pv t v => simp [AO.at] at h
    | arr E l => simp [AO.at] at h
    | dead => simp [AO.at] at h

theorem upd_at_not (y : AO) : ∀ (p : List Nat) (x : AO) (q : List Nat), pre p q = false → Compat ((AO.upd y x p).at q) (x.at q)
  | [], x, q, h => by simp [pre_nil] at h
  | i :: p, x, [], _ => by
    cases x with
    | box E cs => exact ⟨by simp [AO.upd, AO.at], fun E' cs' h => by simp [AO.upd, AO.at] at h; exact ⟨E, cs, by simp [AO.at]⟩, fun _ _ h => by simp [AO.upd, AO.at] at h⟩
    | pv t v => exact Compat.refl _
    | arr E l => exact Compat.refl _
    | dead => exact Compat.refl _
  | i :: p, x, j :: q, h => by
    cases x with
    | box E cs =>
      simp only [AO.upd, AO.at, nth_set]
      by_cases hj : j = i ∧ i < cs.length
      · rw [if_pos hj]
        obtain ⟨rfl, _⟩ := hj
        refine upd_at_not y p _ q ?_
        simpa [pre] using h
      · rw [if_neg hj]; exact Compat.refl _
    | pv t v => exact Compat.refl _
    | arr E l => exact Compat.refl _
    | dead => exact Compat.refl _

theorem pre_iff : ∀ (p q : List Nat), pre p q = true ↔ ∃ r, q = p ++ r
  | [], q => by simp [pre_nil]
  | x :: p, [] => by simp [pre]
  | x :: p, y :: q => by
    simp only [pre, Bool.and_eq_true, nbeq, decide_eq_true_eq, pre_iff p q, List.cons_append, List.cons.injEq]
    constructor
    · rintro ⟨rfl, r, rfl⟩; exact ⟨r, rfl, rfl⟩
    · rintro ⟨r, rfl, rfl⟩; exact ⟨rfl, r, rfl⟩

section
variable {P : Program} {N : Nat} {st st' : St} {a : Act} {hv : List Value} {w w' : World} {g g' : G}

theorem ORep.upd {s : Nat} {y : AO} (hs : w.heap.size ≤ w'.heap.size) (hf : ∀ b, b < w.heap.size → g.tag b = .free → g'.tag b = .free ∧ w'.heap[b]? = w.heap[b]?) :
    ∀ (p r : List Nat) (x : AO), ORep P w g s r x → ORep P w' g' s (r ++ p) y → (∀ q, pre (r ++ p) q = false → g'.val s q = g.val s q) →
    (∀ b q, b < w.heap.size → g.tag b = .own s q → pre (r ++ p) q = false → g'.tag b = .own s q ∧ w'.heap[b]? = w.heap[b]?) →
    (y ≠ .dead → x.at p ≠ .dead ∧ g'.val s (r ++ p) = g.val s (r ++ p)) → ORep P w' g' s r (AO.upd y x p)
  | [], r, x, _, hy, _, _, _ => by simpa [AO.upd] using hy
  | i :: p, r, x, hx, hy, hv, ho, hd => by
    have hnot : ∀ q, pre (r ++ i :: p) (r ++ q) = true → ∃ q', q = i :: q' ∧ pre p q' = true := by
      intro q hq
      obtain ⟨z, hz⟩ := (pre_iff _ _).1 hq
      simp only [List.append_assoc, List.cons_append, List.append_cancel_left_eq] at hz
      exact ⟨p ++ z, hz, (pre_iff _ _).2 ⟨z, rfl⟩⟩
    have hpre : ∀ q, (∀ q', q ≠ i :: q') → pre (r ++ i :: p) (r ++ q) = false := by
      intro q hq
      cases h : pre (r ++ i :: p) (r ++ q) with
      | false => rfl
      | true => obtain ⟨q', h1, _⟩ := hnot q h; exact absurd h1 (hq q')
    have hr0 : pre (r ++ i :: p) r = false := by have := hpre [] (by simp); simpa using this
    cases hx with
    | pv _ t z h =>
      show ORep P w' g' s r (.pv t z)
      refine .pv r t z ?_
      rw [hv r hr0]; exact h.ext hs hf
    | dead _ => exact .dead r
    | narr _ E hv' =>
      show ORep P w' g' s r (.arr E [])
      exact .narr r E (by rw [hv r hr0]; exact hv')
    | arr _ E l b off cap vs f T hv' hh ht hl hcap he hc =>
      show ORep P w' g' s r (.arr E l)
      have hb : b < w.heap.size := by
        rcases Nat.lt_or_ge b w.heap.size with h | h
        · exact h
        · rw [Array.getElem?_eq_none h] at hh; cases hh
      obtain ⟨t1, t2⟩ := ho b r hb ht hr0
      exact .arr r E l b off cap vs f T (by rw [hv r hr0]; exact hv') (by rw [t2]; exact hh) t1 hl hcap (fun i x hx => (he i x hx).ext hs hf) hc
    | box _ E cs b vs hv' hh ht hl hc hcv =>
      have hb : b < w.heap.size := by
        rcases Nat.lt_or_ge b w.heap.size with h | h
        · exact h
        · rw [Array.getElem?_eq_none h] at hh; cases hh
      obtain ⟨t1, t2⟩ := ho b r hb ht hr0
      simp only [AO.upd]
      refine .box r E _ b vs (by rw [hv r hr0]; exact hv') (by rw [t2]; exact hh) t1 (by simp [hl]) (fun j z hj => ?_) (fun j z hj hz => ?_)
      · rw [List.getElem?_set] at hj
        split at hj
        · rename_i hij
          subst hij
          split at hj
          · rename_i hi
            cases hj
            have hci := List.getElem?_eq_getElem hi
            have hn : nth .dead cs i = cs[i] := by rw [nth_eq, hci]; rfl
            rw [hn]
            refine ORep.upd hs hf p (r ++ [i]) cs[i] (hc i _ hci) (by simpa using hy) (fun q hq => hv q (by simpa using hq)) (fun b q hb ht hq => ho b q hb ht (by simpa using hq)) (fun hyd => ?_)
            obtain ⟨d1, d2⟩ := hd hyd
            simp only [AO.at, hn] at d1
            exact ⟨d1, by simpa using d2⟩
          · cases hj
        · rename_i hij
          refine (hc j z hj).ext hs hf (fun q => ?_) (fun b q hb ht => ?_)
          · refine hv _ ?_
            rw [List.append_assoc]; exact hpre _ (by intro q'; simp; intro h; exact absurd h.symm hij)
          · refine ho b _ hb ht ?_
            rw [List.append_assoc]; exact hpre _ (by intro q'; simp; intro h; exact absurd h.symm hij)
      · rw [List.getElem?_set] at hj
        split at hj
        · rename_i hij
          subst hij
          split at hj
          · rename_i hi
            cases hj
            have hci := List.getElem?_eq_getElem hi
            have hn : nth .dead cs i = cs[i] := by rw [nth_eq, hci]; rfl
            rw [hn] at hz
            cases p with
            | nil =>
              simp only [AO.upd] at hz
              obtain ⟨d1, d2⟩ := hd hz
              simp only [AO.at, hn] at d1
              rw [hcv i _ hci d1, d2]
            | cons k p =>
              have hne : cs[i] ≠ .dead := by intro h0; rw [h0] at hz; exact hz rfl
              rw [hcv i _ hci hne, hv]
              cases hq : pre (r ++ i :: k :: p) (r ++ [i]) with
              | false => rfl
              | true =>
                obtain ⟨q', h1, h2⟩ := hnot _ hq
                simp at h1; subst h1; simp [pre] at h2
          · cases hj
        · rename_i hij
          rw [hcv j z hj hz, hv]
          exact hpre [j] (by intro q'; simp; intro h; exact absurd h.symm hij)

/-- A slot's content that isn't touched: what it names may be another object of the same kind. -/
theorem SRep.keep2 {s : Nat} {x : AV} {v : Value} (h : SRep P w g st s x v) (hs : w.heap.size ≤ w'.heap.size)
    (hf : ∀ b, b < w.heap.size → g.tag b = .free → g'.tag b = .free ∧ w'.heap[b]? = w.heap[b]?)
    (hx : ∀ y, x ≠ .o y)
    (hr : ∀ r p, (x = .al r p ∨ (∃ off, x = .ptr r p off) ∨ (∃ i off, x = .el r p i off)) → (obj st' r p = .dead) ∨ (Compat (obj st' r p) (obj st r p) ∧ g'.val r p = g.val r p)) :
    SRep P w' g' st' s x v := by
  cases h with
  | o x v hv h => exact absurd rfl (hx x)
  | al r p v h =>
    refine .al r p v (fun hd => ?_)
    rcases hr r p (.inl rfl) with h1 | ⟨h1, h2⟩
    · exact absurd h1 hd
    · rw [h2]; exact h (h1.live hd)
  | ptr r p off v h =>
    refine .ptr r p off v (fun E cs he => ?_)
    rcases hr r p (.inr (.inl ⟨off, rfl⟩)) with h1 | ⟨h1, h2⟩
    · rw [h1] at he; cases he
    · rw [h2]; obtain ⟨E0, cs', hc⟩ := h1.box E cs he; exact h E0 cs' hc
  | el r p i off v h =>
    refine .el r p i off v (fun E l he => ?_)
    rcases hr r p (.inr (.inr ⟨i, off, rfl⟩)) with h1 | ⟨h1, h2⟩
    · rw [h1] at he; cases he
    · rw [h2]; obtain ⟨l0, e1, e2⟩ := h1.arr E l he; rw [e2]; exact h E l0 e1
  | ip E x off b o f h hc ht hb =>
    obtain ⟨h1, h2⟩ := hf b hb ht
    exact .ip E x off b o f (h.ext hs hf) (fun j hj => by rw [World.cell?_of_block (w := w) h2]; exact hc j hj) h1 (Nat.lt_of_lt_of_le hb hs)
  | tup xs vs hl h =>
    refine .tup xs vs hl (fun i x v hx hv => ?_)
    obtain ⟨t, y, h1, h2⟩ := h i x v hx hv
    exact ⟨t, y, h1, h2.ext hs hf⟩
  | dead v => exact .dead v

theorem Good.get_lt (h : Good P N st a hv w g) {s : Nat} (hs : s < st.length) {v : Value} (hv' : (a.tmps.toList ++ hv)[s]? = some v) : SRep P w g st s (get st s) v := by
  refine h.inv.slot s _ v ?_ hv'
  rw [get, nth_eq, List.getElem?_eq_getElem hs]; rfl

/-- The same frame, another state: slot by slot. -/
theorem Good.mk' (h : Good P N st a hv w g) (hlen : st'.length = st.length) (hfr : ∀ b, w'.heap.size ≤ b → g'.tag b = .free) (hvr : VarsOk P w' g')
    (hs : ∀ s v, s < st.length → (a.tmps.toList ++ hv)[s]? = some v → SRep P w' g' st' s (get st' s) v) : Good P N st' a hv w' g' := by
  refine ⟨⟨by rw [hlen]; exact h.inv.len, fun s x v hx hv' => ?_, hfr, hvr⟩, h.sz, h.dfr⟩
  have hlt := (List.getElem?_eq_some_iff.1 hx).1
  have := hs s v (by omega) hv'
  rw [get_of_getElem? hx] at this; exact this

theorem Good.kill (h : Good P N st a hv w g) (s : Nat) (p : List Nat) : Good P N (V.kill s p st) a hv w g := by
  refine h.mk' (length_kill _ _ _) h.inv.fresh h.inv.vars (fun t v ht hv' => ?_)
  have hs := h.get_lt ht hv'
  rw [get_kill]
  cases hr : (get st t).rooted s p with
  | true => exact .dead v
  | false =>
    exact hs.keep (Nat.le_refl _) (fun _ _ hb => ⟨hb, rfl⟩) (fun _ _ _ => ⟨fun _ => rfl, fun _ _ _ ht => ⟨ht, rfl⟩⟩) (fun r q _ => .inr ⟨obj_kill s p st r q, rfl⟩)

/-- An object is replaced where it lies. -/
theorem good_setObj (h : Good P N st a hv w g) {s : Nat} {p : List Nat} {y : AO} (hlive : obj st s p ≠ .dead) (hs : w.heap.size ≤ w'.heap.size) (hf : ∀ b, b < w.heap.size → g.tag b = .free → g'.tag b = .free ∧ w'.heap[b]? = w.heap[b]?)
    (hfr : ∀ b, w'.heap.size ≤ b → g'.tag b = .free) (hy : ORep P w' g' s p y)
    (hval : ∀ t q, (t ≠ s ∨ pre p q = false) → g'.val t q = g.val t q) (hvp : y ≠ .dead → g'.val s p = g.val s p)
    (ho : ∀ b t q, b < w.heap.size → g.tag b = .own t q → (t ≠ s ∨ pre p q = false) → g'.tag b = .own t q ∧ w'.heap[b]? = w.heap[b]?)
    (hr : ∀ q t, (get st t = .al s (p ++ q) ∨ (∃ off, get st t = .ptr s (p ++ q) off) ∨ (∃ i off, get st t = .el s (p ++ q) i off)) → y.at q = .dead ∨ (Compat (y.at q) ((obj st s p).at q) ∧ g'.val s (p ++ q) = g.val s (p ++ q))) :
    Good P N (setObj st s p y) a hv w' g' := by
  have hget : ∃ x, get st s = .o x := by
    unfold obj at hlive
    split at hlive
    · exact ⟨_, by assumption⟩
    · exact absurd rfl hlive
  obtain ⟨x, hx⟩ := hget
  have hxp : x.at p = obj st s p := by unfold obj; rw [hx]
  have hst : setObj st s p y = st.set s (.o (AO.upd y x p)) := by unfold setObj; rw [hx]
  have hslt : s < st.length := by
    rcases Nat.lt_or_ge s st.length with h' | h'
    · exact h'
    · rw [get, nth_eq, List.getElem?_eq_none h'] at hx; cases hx
  have hobj : ∀ t q, obj (setObj st s p y) t q = if t = s then (AO.upd y x p).at q else obj st t q := by
    intro t q
    by_cases hts : t = s
    · subst hts
      rw [if_pos rfl, hst]
      unfold obj; rw [get_set]; simp [hslt]
    · rw [if_neg hts, hst, obj_set _ hts]
  refine h.mk' (by rw [hst]; simp) hfr (h.inv.vars.keep hs hf) (fun t v ht hv' => ?_)
  have hsr := h.get_lt ht hv'
  by_cases hts : t = s
  · subst hts
    have hg : get (setObj st t p y) t = .o (AO.upd y x p) := by rw [hst, get_set]; simp [hslt]
    rw [hg]
    rw [hx] at hsr
    cases hsr with
    | o _ _ hv0 hor =>
      refine .o _ v (fun hd => ?_) (hor.upd hs hf p [] x (by simpa using hy) (fun q hq => hval t q (.inr (by simpa using hq))) (fun b q hb ht hq => ho b t q hb ht (.inr (by simpa using hq))) (fun hyd => ⟨by rw [hxp]; exact hlive, by simpa using hvp hyd⟩))
      cases p with
      | nil =>
        simp only [AO.upd] at hd
        have : x ≠ .dead := by intro h0; apply hlive; rw [← hxp, h0]; rfl
        rw [hv0 this, hvp hd]
      | cons i p =>
        have : x ≠ .dead := by intro h0; apply hlive; rw [← hxp, h0]; rfl
        rw [hv0 this, hval t [] (.inr rfl)]
  · have hg : get (setObj st s p y) t = get st t := by rw [hst, get_set]; simp [hts]
    rw [hg]
    by_cases hox : ∃ z, get st t = .o z
    · obtain ⟨z, hz⟩ := hox
      rw [hz] at hsr ⊢
      cases hsr with
      | o _ _ hv0 hor =>
        exact .o z v (fun hd => by rw [hv0 hd, hval t [] (.inl hts)]) (hor.ext hs hf (fun q => by simpa using hval t q (.inl hts)) (fun b q hb ht => by simpa using ho b t q hb (by simpa using ht) (.inl hts)))
    · refine hsr.keep2 hs hf (fun z hz => hox ⟨z, hz⟩) (fun r q hrq => ?_)
      rw [hobj]
      by_cases hrs : r = s
      · subst hrs
        rw [if_pos rfl]
        have hob : obj st r q = x.at q := by unfold obj; rw [hx]
        cases hpq : pre p q with
        | true =>
          obtain ⟨z, rfl⟩ := (pre_iff p q).1 hpq
          rw [upd_at_ext y p x z (by rw [hxp]; exact hlive), hob, at_append, hxp]
          exact hr z t hrq
        | false =>
          rw [hob]
          exact .inr ⟨upd_at_not y p x q hpq, hval r q (.inr hpq)⟩
      · rw [if_neg hrs]
        exact .inr ⟨Compat.refl _, hval r q (.inl hrs)⟩

end
end Go.V

namespace Go.V

def ThenL (P : Program) (N : Nat) (hv : List Value) (w : World) (g : G) (K : St → R) (r : List AO × List AO) (next : Act → World → Prop) : Prop :=
  ∀ st' a' w' g', Good P N st' a' hv w' g' → Fr w g w' g' → K st' = some r → next a' w'

section
variable {P : Program} {N : Nat} {st : St} {a : Act} {hv : List Value} {w : World} {g : G} {K : St → R} {r : List AO × List AO} {o : Oper} {next : Act → World → Prop} {Q : Exit → Act → World → Prop} {call : CallF}

theorem then_of_L (h : Good P N st a hv w g) (hd : ∀ i, o.dst = some i → i < N) (hp : ThenL P N hv w g K r next) : Then P st a w g (fun v => K (putD o.dst v st)) r o next :=
  fun _ _ _ _ hq hs hk => hp _ _ _ _ (h.putD hd hq hs) hq.fr hk

/-- An owned array made pure where it lies. -/
theorem good_freeze (h : Good P N st a hv w g) {s : Nat} {p : List Nat} {E : TypeId} {l : List PV} (hob : obj st s p = .arr E l) :
    ∃ g', Good P N (freezeObj st s p) a hv w g' ∧ Fr w g w g' := by
  have hfz : freezeObj st s p = setObj st s p (.pv (.sl E) (.sl l)) := by unfold freezeObj; rw [hob]; rfl
  rw [hfz]
  have hor := h.obj s p
  rw [hob] at hor
  have hcompat : ∀ (g' : G), g'.val = g.val → ∀ q t, (get st t = .al s (p ++ q) ∨ (∃ off, get st t = .ptr s (p ++ q) off) ∨ (∃ i off, get st t = .el s (p ++ q) i off)) →
      (AO.pv (.sl E) (.sl l)).at q = .dead ∨ (Compat ((AO.pv (.sl E) (.sl l)).at q) ((obj st s p).at q) ∧ g'.val s (p ++ q) = g.val s (p ++ q)) := by
    intro g' hg' q t _
    cases q with
    | nil => exact .inr ⟨⟨fun _ => by rw [hob]; simp [AO.at], fun _ _ h => by simp [AO.at] at h, fun _ _ h => by simp [AO.at] at h⟩, by rw [hg']⟩
    | cons i q => exact .inl rfl
  cases hor with
  | narr _ _ hv' =>
    refine ⟨g, good_setObj h (by rw [hob]; simp) (Nat.le_refl _) (fun _ _ hb => ⟨hb, rfl⟩) h.inv.fresh (.pv p _ _ ?_) (fun _ _ _ => rfl) (fun _ => rfl) (fun _ _ _ _ ht _ => ⟨ht, rfl⟩) (hcompat g rfl), Fr.refl w g h.inv.fresh⟩
    rw [hv']; exact .nsl E
  | arr _ _ _ b off cap vs f T hv' hh ht hl hcap he hc =>
    have hb : b < w.heap.size := by
      rcases Nat.lt_or_ge b w.heap.size with h | h
      · exact h
      · rw [Array.getElem?_eq_none h] at hh; cases hh
    let g' : G := { tag := fun c => if c = b then .free else g.tag c, val := g.val }
    have hpf : ∀ c, c < w.heap.size → g.tag c = .free → g'.tag c = .free ∧ w.heap[c]? = w.heap[c]? := by
      intro c _ hc
      refine ⟨?_, rfl⟩
      show (if c = b then Tag.free else g.tag c) = .free
      split
      · rfl
      · exact hc
    have hfr' : ∀ c, w.heap.size ≤ c → g'.tag c = .free := by
      intro c hc
      show (if c = b then Tag.free else g.tag c) = .free
      rw [if_neg (by omega)]; exact h.inv.fresh c hc
    refine ⟨g', good_setObj h (by rw [hob]; simp) (Nat.le_refl _) hpf hfr' (.pv p _ _ ?_) (fun _ _ _ => rfl) (fun _ => rfl) (fun c t q hcl htc hq => ⟨?_, rfl⟩) (hcompat g' rfl), ?_⟩
    · show PRep P w g' _ _ (g.val s p)
      rw [hv']
      refine .sl E l b off cap f (fun i x hx => (he i x hx).ext (Nat.le_refl _) hpf) (fun i hi j hj => ?_) (by show (if b = b then Tag.free else g.tag b) = .free; rw [if_pos rfl]) hb hl
      rw [cell_of_row w b _ ⟨vs⟩ T (0, 0) hh, ← hc i hi j hj]; simp
    · show (if c = b then Tag.free else g.tag c) = _
      rw [if_neg]
      · exact htc
      · rintro rfl
        rw [ht] at htc
        cases htc
        rcases hq with hq | hq
        · exact hq rfl
        · have := (pre_iff p p).2 ⟨[], by simp⟩
          rw [this] at hq; cases hq
    · refine ⟨rfl, rfl, rfl, Nat.le_refl _, hpf, fun c hcl htc => ⟨?_, rfl⟩, fun c htc => ?_, hfr'⟩
      · show (if c = b then Tag.free else g.tag c) = _
        rw [if_neg]
        · exact htc
        · rintro rfl; rw [ht] at htc; cases htc
      · have htc' : (if c = b then Tag.free else g.tag c) = .out := htc
        split at htc'
        · cases htc'
        · refine ⟨htc', ?_⟩
          rcases Nat.lt_or_ge c w.heap.size with h' | h'
          · exact h'
          · rw [h.inv.fresh c h'] at htc'; cases htc'

theorem good_freezeOps (h : Good P N st a hv w g) : ∀ (l : List Operand) (st : St) (g : G), Good P N st a hv w g → ∃ g', Good P N (freezeOps l st) a hv w g' ∧ Fr w g w g'
  | [], st, g, h => ⟨g, h, Fr.refl w g h.inv.fresh⟩
  | x :: l, st, g, h' => by
    simp only [freezeOps]
    split
    · rename_i s p _
      split
      · rename_i E l' hob
        obtain ⟨g1, h1, f1⟩ := good_freeze h' hob
        obtain ⟨g2, h2, f2⟩ := good_freezeOps h l _ g1 h1
        exact ⟨g2, h2, f1.trans f2⟩
      · exact good_freezeOps h l _ g h'
    · exact good_freezeOps h l _ g h'

theorem evL_freeze (hcall : CallOk P call) (h : Good P N st a hv w g) (hok : opOk N o) (hd : ∀ i, o.dst = some i → i < N) (l : List Operand)
    (hk : evQ P call o (freezeOps l st) (fun v => K (putD o.dst v (freezeOps l st))) = some r) (hpost : ThenL P N hv w g K r next) : o.wp P a w next Q := by
  obtain ⟨g1, h1, f1⟩ := good_freezeOps h l st g h
  exact evQ_sound hcall h1 hok hk (then_of_L h1 hd fun st' a' w' g' hg hf hk => hpost st' a' w' g' hg (f1.trans hf) hk)

end
end Go.V

namespace Go.V

theorem heap_setRow_other (w : World) (b k : Nat) (cs : Array Value) (h : k ≠ b) : (w.setRow b cs).heap[k]? = w.heap[k]? := by
  simp [World.setRow, Array.getElem?_modify, Ne.symm h]
theorem size_setRow (w : World) (b : Nat) (cs : Array Value) : (w.setRow b cs).heap.size = w.heap.size := by simp [World.setRow]

theorem setAOs_get : ∀ (vs cs : List AO) (off : Nat), (setAOs cs off vs).length = cs.length ∧
    ∀ k, (setAOs cs off vs)[k]? = if off ≤ k ∧ k < off + vs.length ∧ k < cs.length then vs[k - off]? else cs[k]?
  | [], cs, off => by
    refine ⟨rfl, fun k => ?_⟩
    simp only [setAOs, List.length_nil, Nat.add_zero]
    rw [if_neg (by omega)]
  | v :: vs, cs, off => by
    obtain ⟨h1, h2⟩ := setAOs_get vs (cs.set off v) (off + 1)
    simp only [setAOs]
    refine ⟨by rw [h1]; simp, fun k => ?_⟩
    rw [h2 k]
    simp only [List.length_set, List.length_cons, List.getElem?_set]
    by_cases hk : off = k
    · subst hk
      rw [if_neg (by omega), if_pos rfl]
      by_cases hs : off < cs.length
      · rw [if_pos hs, if_pos ⟨Nat.le_refl _, by omega, hs⟩, Nat.sub_self]; rfl
      · rw [if_neg hs, if_neg (by omega), List.getElem?_eq_none (by omega)]
    · by_cases hin : off + 1 ≤ k ∧ k < off + 1 + vs.length ∧ k < cs.length
      · rw [if_pos hin, if_pos (by omega)]
        have e : k - off = (k - (off + 1)) + 1 := by omega
        rw [e, List.getElem?_cons_succ]
      · rw [if_neg hin, if_neg hk, if_neg (by omega)]

/-- The ghosts behind a store into cells off .. of the box at (s, p). -/
def G.cells (g : G) (s : Nat) (p : List Nat) (off : Nat) (vals : List Value) : G :=
  { tag := g.tag, val := fun t q => if t = s ∧ pre p q = true then (match q.drop p.length with
      | [k] => if off ≤ k ∧ k < off + vals.length then vals.getD (k - off) undef else g.val t q
      | _ => g.val t q) else g.val t q }

theorem G.cells_in (g : G) (s : Nat) (p : List Nat) (off : Nat) (vals : List Value) (k : Nat) (h : off ≤ k ∧ k < off + vals.length) : (g.cells s p off vals).val s (p ++ [k]) = vals.getD (k - off) undef := by
  have : pre p (p ++ [k]) = true := (pre_iff _ _).2 ⟨_, rfl⟩
  simp [G.cells, this, h]

theorem G.cells_not (g : G) (s : Nat) (p : List Nat) (off : Nat) (vals : List Value) (t : Nat) (q : List Nat) (h : t = s → ∀ k, q = p ++ [k] → ¬ (off ≤ k ∧ k < off + vals.length)) : (g.cells s p off vals).val t q = g.val t q := by
  simp only [G.cells]
  split
  · rename_i hc
    obtain ⟨rfl, hp⟩ := hc
    obtain ⟨z, rfl⟩ := (pre_iff _ _).1 hp
    rw [List.drop_left]
    split
    · rename_i k
      rw [if_neg (h rfl k rfl)]
    · rfl
  · rfl

section
variable {P : Program} {N : Nat} {st : St} {a : Act} {hv : List Value} {w : World} {g : G} {K : St → R} {r : List AO × List AO} {o : Oper} {next : Act → World → Prop} {Q : Exit → Act → World → Prop} {call : CallF}

/-- Pure cells go into a box. -/
theorem store_cells (h : Good P N st a hv w g) {s : Nat} {p : List Nat} {E : TypeId} {cs : List AO} (hob : obj st s p = .box E cs) {b off : Nat} {vs : List Value} (hvv : g.val s p = .pointer (some ⟨b, 0, none⟩))
    (hh : w.heap[b]? = some (.cells ⟨vs⟩ E (0, 0))) (ht : g.tag b = .own s p) (hl : vs.length = cs.length)
    (hc : ∀ (i : Nat) (y : AO), cs[i]? = some y → ORep P w g s (p ++ [i]) y) (hcv : ∀ (i : Nat) (y : AO), cs[i]? = some y → y ≠ .dead → vs[i]? = some (g.val s (p ++ [i])))
    {ys : List AO} {vals : List Value} (hn : ys.length = vals.length) (hle : off + vals.length ≤ vs.length)
    (hrep : ∀ (i : Nat) (y : AO) (v : Value), ys[i]? = some y → vals[i]? = some v → CellRep P w g y v)
    (hkill : ∀ (t k : Nat), off ≤ k → k < off + vals.length → (get st t).rooted s (p ++ [k]) = false) :
    Good P N (setObj st s p (.box E (setAOs cs off ys))) a hv (w.setRow b (vs.take off ++ vals ++ vs.drop (off + vals.length)).toArray) (g.cells s p off vals) ∧
      Fr w g (w.setRow b (vs.take off ++ vals ++ vs.drop (off + vals.length)).toArray) (g.cells s p off vals) := by
  have hpf : ∀ c, c < w.heap.size → g.tag c = .free → (g.cells s p off vals).tag c = .free ∧ (w.setRow b (vs.take off ++ vals ++ vs.drop (off + vals.length)).toArray).heap[c]? = w.heap[c]? := by
    intro c _ hc
    refine ⟨hc, heap_setRow_other w b c _ ?_⟩
    rintro rfl; rw [ht] at hc; cases hc
  have hsz := size_setRow w b (vs.take off ++ vals ++ vs.drop (off + vals.length)).toArray
  have hpp : pre p p = true := (pre_iff p p).2 ⟨[], by simp⟩
  obtain ⟨sl, sg⟩ := setAOs_get ys cs off
  have hvg : ∀ k, (vs.take off ++ vals ++ vs.drop (off + vals.length))[k]? = if off ≤ k ∧ k < off + vals.length then vals[k - off]? else vs[k]? := by
    intro k
    by_cases h1 : k < off
    · rw [List.append_assoc, List.getElem?_append_left (by simp; omega), List.getElem?_take, if_pos h1, if_neg (by omega)]
    · rw [List.append_assoc, List.getElem?_append_right (by simp; omega)]
      have e : k - (vs.take off).length = k - off := by simp; omega
      rw [e]
      by_cases h2 : k < off + vals.length
      · rw [List.getElem?_append_left (by omega), if_pos ⟨by omega, h2⟩]
      · rw [List.getElem?_append_right (by omega), List.getElem?_drop, if_neg (by omega)]
        congr 1; omega
  have hvl : (vs.take off ++ vals ++ vs.drop (off + vals.length)).length = vs.length := by simp; omega
  refine ⟨good_setObj h (by rw [hob]; simp) (by omega) hpf (fun c hc => h.inv.fresh c (by omega)) ?_ ?_ ?_ ?_ ?_, ?_⟩
  · refine .box p E _ b _ (by rw [G.cells_not _ _ _ _ _ _ _ (fun _ k hk => by simp at hk)]; exact hvv) (setRow_heap w b ⟨vs⟩ _ E (0, 0) hh) ht (by rw [hvl, sl, hl]) (fun i y hy => ?_) (fun i y hy hd => ?_)
    · rw [sg i, hn] at hy
      split at hy
      · rename_i hin
        obtain ⟨v, hvi⟩ : ∃ v, vals[i - off]? = some v := ⟨_, List.getElem?_eq_getElem (by omega)⟩
        have hval : (g.cells s p off vals).val s (p ++ [i]) = v := by rw [G.cells_in _ _ _ _ _ _ ⟨hin.1, hin.2.1⟩, List.getD, hvi]; rfl
        rcases hrep _ y v hy hvi with rfl | ⟨t, z, rfl, hp⟩ | ⟨E', rfl, rfl⟩
        · exact .dead _
        · refine .pv _ t z ?_
          rw [hval]; exact hp.ext (by omega) hpf
        · exact .narr _ E' hval
      · rename_i hin
        refine (hc i y hy).ext (by omega) hpf (fun q => ?_) (fun c q hcl htc => ⟨htc, heap_setRow_other w b c _ ?_⟩)
        · refine G.cells_not _ _ _ _ _ _ _ (fun _ k hk => ?_)
          simp only [List.append_assoc, List.append_cancel_left_eq, List.singleton_append, List.cons.injEq] at hk
          have := (List.getElem?_eq_some_iff.1 hy).1
          omega
        · rintro rfl
          rw [ht] at htc
          injection htc with h1 h2
          have := congrArg List.length h2
          simp at this
    · rw [sg i, hn] at hy
      rw [hvg i]
      split at hy
      · rename_i hin
        rw [if_pos ⟨hin.1, hin.2.1⟩, G.cells_in _ _ _ _ _ _ ⟨hin.1, hin.2.1⟩, List.getD, List.getElem?_eq_getElem (by omega)]; rfl
      · rename_i hin
        have := (List.getElem?_eq_some_iff.1 hy).1
        rw [if_neg (by omega), hcv i y hy hd, G.cells_not _ _ _ _ _ _ _ (fun _ k hk => ?_)]
        simp only [List.append_cancel_left_eq, List.cons.injEq, and_true] at hk
        omega
  · intro t q htq
    refine G.cells_not _ _ _ _ _ _ _ (fun hts k hk => ?_)
    rcases htq with htq | htq
    · exact absurd hts htq
    · have := (pre_iff p q).2 ⟨[k], hk⟩
      rw [this] at htq; cases htq
  · intro _
    exact G.cells_not _ _ _ _ _ _ _ (fun _ k hk => by simp at hk)
  · intro c t q hcl htc htq
    refine ⟨htc, heap_setRow_other w b c _ ?_⟩
    rintro rfl
    rw [ht] at htc
    injection htc with h1 h2
    subst h1; subst h2
    rcases htq with htq | htq
    · exact htq rfl
    · rw [hpp] at htq; cases htq
  · intro q t hq
    cases q with
    | nil => exact .inr ⟨⟨fun _ => by rw [hob]; simp [AO.at], fun E' cs' he => by exact ⟨E, cs, by rw [hob]; simp [AO.at]⟩, fun _ _ he => by simp [AO.at] at he⟩, G.cells_not _ _ _ _ _ _ _ (fun _ k hk => by simp at hk)⟩
    | cons k q =>
      have hnk : ¬ (off ≤ k ∧ k < off + vals.length) := by
        rintro ⟨h1, h2⟩
        have hkk := hkill t k h1 h2
        have hpk : pre (p ++ [k]) (p ++ k :: q) = true := (pre_iff _ _).2 ⟨q, by simp⟩
        rcases hq with hq | ⟨_, hq⟩ | ⟨_, _, hq⟩ <;> rw [hq] at hkk <;> simp [AV.rooted, hpk] at hkk
      refine .inr ⟨?_, G.cells_not _ _ _ _ _ _ _ (fun _ k' hk => ?_)⟩
      · rw [hob]
        simp only [AO.at]
        have : nth .dead (setAOs cs off ys) k = nth .dead cs k := by rw [nth_eq, nth_eq, sg k, hn, if_neg (by omega)]
        rw [this]; exact Compat.refl _
      · simp only [List.append_cancel_left_eq, List.cons.injEq] at hk
        rw [← hk.1]; exact hnk
  · refine ⟨rfl, rfl, rfl, by omega, hpf, fun c hcl htc => ⟨htc, heap_setRow_other w b c _ ?_⟩, fun c htc => ⟨htc, ?_⟩, fun c hc => h.inv.fresh c (by omega)⟩
    · rintro rfl; rw [ht] at htc; cases htc
    · rcases Nat.lt_or_ge c w.heap.size with h' | h'
      · exact h'
      · have := h.inv.fresh c h'
        rw [show g.tag c = .out from htc] at this; cases this

end
end Go.V

namespace Go.V
section
variable {P : Program} {N : Nat} {st : St} {a : Act} {hv : List Value} {w : World} {g : G} {K : St → R} {r : List AO × List AO} {o : Oper} {next : Act → World → Prop} {Q : Exit → Act → World → Prop} {call : CallF}

theorem run_storeVar {T : TypeId} {b off : Nat} {v : Value} {vs : List Value} {E : TypeId} (hsz : v.cells.size = P.cellsOf T) (hT : P.cellsOf T ≠ 0 ∨ (P.info? T).isSome = true) (hh : w.heap[b]? = some (.cells ⟨vs⟩ E (0, 0))) (hle : off + v.cells.size ≤ vs.length) (h1 : ∀ u ∈ v.cells.toList, u.oneCell' = true) :
    (storeVar T ⟨b, off, none⟩ v).run P w = .ok () (w.setRow b (vs.take off ++ v.cells.toList ++ vs.drop (off + v.cells.toList.length)).toArray) := by
  have hs : (sizeOf T).run P w = .ok (P.cellsOf T) w := by
    rcases hT with h | h
    · exact run_sizeOf' h
    · exact run_sizeOf_info h
  have := run_storeCells_at (P := P) b off E v.cells.toList 0 ⟨vs⟩ w hh (by simpa using hle) h1
  simp only [storeVar, Sem.run_bind, hs, Result.andThen_ok, hsz, ne_eq, not_true_eq_false, if_false]
  simpa using this

theorem run_store_op {T : TypeId} {addr x : Operand} (hop : o.op = .store T addr x) {ad : Addr} (ha : a.eval addr = .pointer (some ad)) {w' : World} (hr : (storeVar T ad (a.eval x)).run P w = .ok () w') : (execOp a.eval o).run P w = .ok .skip w' := by
  have e : execOp a.eval o = (do Instr.storeAt T (a.eval addr) (a.eval x); pure Next.skip) := by simp only [execOp, hop]
  rw [e, Sem.run_bind]
  have : (Instr.storeAt T (a.eval addr) (a.eval x)).run P w = .ok () w' := by
    simp only [Instr.storeAt, ha, Instr.sureAddr, Sem.run_bind, Sem.run_pure, Result.andThen_ok, hr]
  rw [this]; rfl

theorem rooted_kill (s : Nat) (p : List Nat) (st : St) (t : Nat) (s' : Nat) (p' : List Nat) : (get (kill s p st) t).rooted s' p' = ((get st t).rooted s' p' && !(get st t).rooted s p) := by
  rw [get_kill]
  cases (get st t).rooted s p <;> simp [AV.rooted]

theorem killCells_spec (s : Nat) (p : List Nat) : ∀ (n off : Nat) (st : St) , Good P N st a hv w g → Good P N (killCells s p off n st) a hv w g ∧ (∀ r q, obj (killCells s p off n st) r q = obj st r q) ∧
    (∀ t k, off ≤ k → k < off + n → (get (killCells s p off n st) t).rooted s (p ++ [k]) = false) ∧ (∀ t s' p', (get st t).rooted s' p' = false → (get (killCells s p off n st) t).rooted s' p' = false) ∧
    (∀ t x, get (killCells s p off n st) t = .o x ↔ get st t = .o x)
  | 0, off, st, h => ⟨h, fun _ _ => rfl, fun _ _ _ _ => by omega, fun _ _ _ h => h, fun _ _ => Iff.rfl⟩
  | n + 1, off, st, h => by
    obtain ⟨h1, h2, h3, h4, h5⟩ := killCells_spec s p n (off + 1) (kill s (p ++ [off]) st) (h.kill s (p ++ [off]))
    refine ⟨h1, fun r q => by simp only [killCells]; rw [h2, obj_kill], fun t k hk1 hk2 => ?_, fun t s' p' ht => ?_, fun t x => ?_⟩
    · simp only [killCells]
      by_cases hk : k = off
      · subst hk
        refine h4 t s (p ++ [k]) ?_
        rw [rooted_kill]; cases (get st t).rooted s (p ++ [k]) <;> rfl
      · exact h3 t k (by omega) (by omega)
    · simp only [killCells]
      refine h4 t s' p' ?_
      rw [rooted_kill, ht]; rfl
    · simp only [killCells]
      rw [h5, ← get_kill_o]

theorem put_none (v : Value) (hd : o.dst = none) : a.put o.dst v = a := by rw [hd]; rfl

theorem evL_storeBox (h : Good P N st a hv w g) {T : TypeId} {addr x : Operand} (hop : o.op = .store T addr x) (hok : opOk N o) (hd : o.dst = none) {s : Nat} {p : List Nat} {off : Nat} (hp : asPtr st addr = some (s, p, off)) {E : TypeId} {cs : List AO} (hob : obj st s p = .box E cs)
    {ys : List AO} (hsz : (a.eval x).cells.size = P.cellsOf T) (hT : P.cellsOf T ≠ 0 ∨ (P.info? T).isSome = true) (hn : ys.length = (a.eval x).cells.size) (hle : off + ys.length ≤ cs.length)
    (h1 : ∀ u ∈ (a.eval x).cells.toList, u.oneCell' = true) (hrep : ∀ (i : Nat) (y : AO) (v : Value), ys[i]? = some y → (a.eval x).cells.toList[i]? = some v → CellRep P w g y v)
    (hk : K (setObj (killCells s p off ys.length st) s p (.box E (setAOs cs off ys))) = some r) (hpost : ThenL P N hv w g K r next) : o.wp P a w next Q := by
  obtain ⟨b, vs, hev, hvv, hh, ht, hl, hc, hcv⟩ := asPtr_sound h (hok addr (by simp [hop, Op.operands])) hp hob
  obtain ⟨k1, k2, k3, _, _⟩ := killCells_spec s p ys.length off st h
  obtain ⟨g1, f1⟩ := store_cells k1 (s := s) (p := p) (E := E) (cs := cs) (by rw [k2]; exact hob) (off := off) hvv hh ht hl hc hcv (ys := ys) (vals := (a.eval x).cells.toList) (by simpa using hn) (by simp; omega) hrep (fun t k hk1 hk2 => k3 t k hk1 (by simp at hk2; omega))
  unfold Oper.wp
  rw [run_store_op hop hev (run_storeVar hsz hT hh (by omega) h1)]
  show next (a.put o.dst undef) _
  rw [put_none _ hd]
  exact hpost _ _ _ _ g1 f1 hk

theorem tyOf_notSt {t : TypeId} {d : TypeDesc} (hd : P.underlying t = some d) (h : ∀ fs, d ≠ .struct fs) : isAggTy (tyOf P t) = false := by
  unfold tyOf; rw [hd]
  cases d <;> first | rfl | exact absurd rfl (h _)

theorem cellTys_scalar_mem : ∀ (d : Nat) (t : TypeId) (ty : Ty), ty ∈ cellTys P d t → isAggTy ty = false
  | 0, t, ty, h => by simp [cellTys] at h
  | d + 1, t, ty, h => by
    simp only [cellTys] at h
    split at h
    · obtain ⟨f, _, hf⟩ := List.mem_flatMap.1 h
      exact cellTys_scalar_mem d f.type ty hf
    · obtain ⟨l, hl, hty⟩ := List.mem_flatten.1 h
      rw [List.eq_of_mem_replicate hl] at hty
      exact cellTys_scalar_mem d _ ty hty
    · rename_i h1 h2
      simp only [List.mem_singleton] at h
      subst h
      cases hu : P.underlying t with
      | none => simp [tyOf, hu, isAggTy]
      | some d => exact tyOf_notSt hu (fun fs hd => h1 fs (by rw [hu, hd]))

theorem one_of_prep {ty : Ty} {x : PV} {v : Value} (hs : isAggTy ty = false) (h : PRep P w g ty x v) : v.oneCell' = true := by
  cases h <;> first | rfl | (simp [isAggTy] at hs; done)

theorem cells_one {T : TypeId} {x : PV} {v : Value} (h : PRep P w g (tyOf P T) x v) (hT : (isAggTy (tyOf P T) || scalarTy (tyOf P T)) = true) : ∀ u ∈ v.cells.toList, u.oneCell' = true := by
  obtain ⟨h1, h2, h3⟩ := cells_of_prep h hT
  intro u hu
  obtain ⟨i, hi⟩ := List.getElem?_of_mem hu
  have hlt := (List.getElem?_eq_some_iff.1 hi).1
  have ht := List.getElem?_eq_getElem (show i < (cellTys P deep T).length by simp at hlt; omega)
  have hp := List.getElem?_eq_getElem (show i < (pcells P T x).length by simp at hlt; omega)
  exact one_of_prep (cellTys_scalar_mem deep T _ (List.getElem_mem _)) (h3 i _ _ u ht hp (by simpa using hi))

/-- What lies in an element's place. -/
theorem evL_storeEl (h : Good P N st a hv w g) {T : TypeId} {x : Operand} {i : Nat} (hop : o.op = .store T (.tmp i) x) (hok : opOk N o) (hd : o.dst = none) {s : Nat} {p : List Nat} {j off : Nat} (hg : get st i = .el s p j off) {E : TypeId} {l : List PV} (hob : obj st s p = .arr E l)
    {v : PV} (hv' : rd P st T x = some v) {z : PV} (hpos : 0 < P.cellsOf T) (hT : (isAggTy (tyOf P T) || scalarTy (tyOf P T)) = true) (hsT : P.cellsOf T = (cellTys P deep T).length)
    (hz : (off = 0 ∧ T = E ∧ z = v) ∨ (isAggTy (tyOf P E) = true ∧ P.cellsOf E = (cellTys P deep E).length ∧ tysPre (cellTys P deep T) ((cellTys P deep E).drop off) = true ∧
              z = .agg (setCells (cellsFrom (nth default l j) 0 (cellTys P deep E).length) off (pcells P T v))))
    (hk : K (setObj st s p (.arr E (l.set j z))) = some r) (hpost : ThenL P N hv w g K r next) : o.wp P a w next Q := by
  have hi : i < N := by have := hok (.tmp i) (by simp [hop, Op.operands]); simpa [tmpOk] using this
  have hx : tmpOk N x = true := hok x (by simp [hop, Op.operands])
  obtain ⟨b, q, cap, vs, T', f, hj, hev, hvv, hh, ht, hl, hcap, he, hc⟩ := good_el h hi hg hob
  have hrep := h.rd hx hv'
  have hxj : l[j]? = some (nth default l j) := by rw [nth_eq, List.getElem?_eq_getElem hj]; rfl
  have hej := he j _ hxj
  obtain ⟨c1, c2, c3⟩ := cells_of_prep hrep hT
  have hone := cells_one hrep hT
  -- the new element's value
  have key : ∃ f', PRep P w g (tyOf P E) z f' ∧ off + (a.eval x).cells.size ≤ P.cellsOf E ∧
      ∀ k, k < P.cellsOf E → f'.cells[k]? = if off ≤ k ∧ k < off + (a.eval x).cells.size then (a.eval x).cells[k - off]? else (f j).cells[k]? := by
    rcases hz with ⟨rfl, rfl, rfl⟩ | ⟨hE, hsE, hpre, rfl⟩
    · refine ⟨a.eval x, hrep, by omega, fun k hk => ?_⟩
      rw [if_pos ⟨Nat.zero_le _, by omega⟩]; rfl
    · have hEs := isAggTy_st hE
      have hle : ∀ k, k < (cellTys P deep T).length → off + k < (cellTys P deep E).length := by
        intro k hk
        have := tysPre_get hpre (List.getElem?_eq_getElem hk)
        rw [List.getElem?_drop] at this
        exact (List.getElem?_eq_some_iff.1 this).1
      have hle' : off + (cellTys P deep T).length ≤ (cellTys P deep E).length := by
        have := hle ((cellTys P deep T).length - 1) (by omega); omega
      rw [hEs] at hej
      obtain ⟨xs, cs, hx0, hcs, e1, e2, e3⟩ := hej.st_inv
      obtain ⟨s1, s2⟩ := setCells_get (pcells P T v) (cellsFrom (nth default l j) 0 (cellTys P deep E).length) off
      have hcf : (cellsFrom (nth default l j) 0 (cellTys P deep E).length).length = (cellTys P deep E).length := by simp [cellsFrom]
      have hcg : ∀ k, (cs.take off ++ (a.eval x).cells.toList ++ cs.drop (off + (a.eval x).cells.size))[k]? = if off ≤ k ∧ k < off + (a.eval x).cells.size then (a.eval x).cells.toList[k - off]? else cs[k]? := by
        intro k
        by_cases h1 : k < off
        · rw [List.append_assoc, List.getElem?_append_left (by simp; omega), List.getElem?_take, if_pos h1, if_neg (by omega)]
        · rw [List.append_assoc, List.getElem?_append_right (by simp; omega)]
          have e : k - (cs.take off).length = k - off := by simp; omega
          rw [e]
          by_cases h2 : k < off + (a.eval x).cells.size
          · rw [List.getElem?_append_left (by simp; omega), if_pos ⟨by omega, h2⟩]
          · rw [List.getElem?_append_right (by simp; omega), List.getElem?_drop, if_neg (by omega)]
            congr 1; simp; omega
      refine ⟨.agg ⟨cs.take off ++ (a.eval x).cells.toList ++ cs.drop (off + (a.eval x).cells.size)⟩, ?_, by omega, fun k hk => ?_⟩
      · rw [hEs]
        refine .st E _ _ (by rw [s1, hcf]) (by simp; omega) (fun k ty y c hty hy hcc => ?_)
        have hk := (List.getElem?_eq_some_iff.1 hty).1
        rw [s2 k, hcf, c1] at hy
        rw [hcg k, c2] at hcc
        by_cases hin : off ≤ k ∧ k < off + (cellTys P deep T).length
        · rw [if_pos ⟨hin.1, hin.2, hk⟩] at hy
          rw [if_pos hin] at hcc
          obtain ⟨m, rfl⟩ : ∃ m, k = off + m := ⟨k - off, by omega⟩
          rw [Nat.add_sub_cancel_left] at hy hcc
          have hm := List.getElem?_eq_getElem (show m < (cellTys P deep T).length by omega)
          have := tysPre_get hpre hm
          rw [List.getElem?_drop, hty] at this
          cases this
          exact c3 m _ y c hm hy (by simpa using hcc)
        · rw [if_neg (by omega)] at hy
          rw [if_neg hin] at hcc
          simp only [cellsFrom, List.getElem?_map, List.getElem?_range hk, Option.map_some, Option.some.injEq] at hy
          refine e3 k ty y c hty ?_ hcc
          rw [← hy, hx0, cell_get, Nat.zero_add, List.getElem?_eq_getElem (by omega)]; rfl
      · rw [hcs]
        show (cs.take off ++ (a.eval x).cells.toList ++ cs.drop (off + (a.eval x).cells.size)).toArray[k]? = if off ≤ k ∧ k < off + (a.eval x).cells.size then (a.eval x).cells[k - off]? else cs.toArray[k]?
        simp only [List.getElem?_toArray, hcg k, Array.getElem?_toList]
  obtain ⟨f', hf1, hf2, hf3⟩ := key
  have hin : q + j * P.cellsOf E + off + (a.eval x).cells.size ≤ vs.length := by
    have h1 : (j + 1) * P.cellsOf E ≤ cap * P.cellsOf E := Nat.mul_le_mul_right _ (by omega)
    rw [Nat.add_mul, Nat.one_mul] at h1; omega
  have hrun := run_store_op hop hev (run_storeVar (P := P) (T := T) (w := w) (b := b) (off := q + j * P.cellsOf E + off) (v := a.eval x) (vs := vs) (E := T') (by omega) (.inl (by omega)) hh hin hone)
  obtain ⟨A, hA⟩ : ∃ A, q + j * P.cellsOf E + off = A := ⟨_, rfl⟩
  rw [hA] at hrun hin
  have hvg : ∀ k, (vs.take A ++ (a.eval x).cells.toList ++ vs.drop (A + (a.eval x).cells.toList.length))[k]? = if A ≤ k ∧ k < A + (a.eval x).cells.size then (a.eval x).cells[k - A]? else vs[k]? := by
    intro k
    by_cases h1 : k < A
    · rw [List.append_assoc, List.getElem?_append_left (by simp; omega), List.getElem?_take, if_pos h1, if_neg (by omega)]
    · rw [List.append_assoc, List.getElem?_append_right (by simp; omega)]
      have e : k - (vs.take A).length = k - A := by simp; omega
      rw [e]
      by_cases h2 : k < A + (a.eval x).cells.size
      · rw [List.getElem?_append_left (by simp; omega), if_pos ⟨by omega, h2⟩]; simp
      · rw [List.getElem?_append_right (by simp; omega), List.getElem?_drop, if_neg (by omega)]
        congr 1; simp; omega
  have hvl : (vs.take A ++ (a.eval x).cells.toList ++ vs.drop (A + (a.eval x).cells.toList.length)).length = vs.length := by simp; omega
  have hpf : ∀ c, c < w.heap.size → g.tag c = .free → g.tag c = .free ∧ (w.setRow b (vs.take A ++ (a.eval x).cells.toList ++ vs.drop (A + (a.eval x).cells.toList.length)).toArray).heap[c]? = w.heap[c]? := by
    intro c _ hc
    refine ⟨hc, heap_setRow_other w b c _ ?_⟩
    rintro rfl; rw [ht] at hc; cases hc
  have hsz := size_setRow w b (vs.take A ++ (a.eval x).cells.toList ++ vs.drop (A + (a.eval x).cells.toList.length)).toArray
  have hpp : pre p p = true := (pre_iff p p).2 ⟨[], by simp⟩
  unfold Oper.wp
  rw [hrun]
  show next (a.put o.dst undef) _
  rw [put_none _ hd]
  refine hpost _ _ _ g (good_setObj h (by rw [hob]; simp) (by omega) hpf (fun c hc => h.inv.fresh c (by omega)) ?_ (fun _ _ _ => rfl) (fun _ => rfl) ?_ ?_) ?_ hk
  · refine .arr p E (l.set j z) b q cap _ (fun m => if m = j then f' else f m) T' (by rw [List.length_set]; exact hvv) (setRow_heap w b ⟨vs⟩ _ T' (0, 0) hh) ht (by simpa using hl) (by rw [hvl]; exact hcap) (fun m y hm => ?_) (fun m hm k hkE => ?_)
    · rw [List.getElem?_set] at hm
      split at hm
      · rename_i hjm
        subst hjm
        have hzy : z = y := by simpa [hj] using hm
        rw [← hzy, if_pos rfl]; exact hf1.ext (by omega) hpf
      · rename_i hjm
        simp only [if_neg (Ne.symm hjm)]
        exact (he m y hm).ext (by omega) hpf
    · simp only [List.length_set] at hm
      rw [hvg]
      by_cases hmj : m = j
      · subst hmj
        simp only [if_pos]
        rw [hf3 k hkE]
        by_cases h1 : off ≤ k ∧ k < off + (a.eval x).cells.size
        · rw [if_pos h1, if_pos (by omega)]
          congr 1; omega
        · rw [if_neg h1, if_neg (by omega)]
          exact hc m hm k hkE
      · simp only [if_neg hmj]
        rw [if_neg]
        · exact hc m hm k hkE
        · rintro ⟨h1, h2⟩
          rcases Nat.lt_or_gt_of_ne hmj with hlt | hgt
          · have h3 : (m + 1) * P.cellsOf E ≤ j * P.cellsOf E := Nat.mul_le_mul_right _ hlt
            rw [Nat.add_mul, Nat.one_mul] at h3; omega
          · have h3 : (j + 1) * P.cellsOf E ≤ m * P.cellsOf E := Nat.mul_le_mul_right _ hgt
            rw [Nat.add_mul, Nat.one_mul] at h3; omega
  · intro c t y hcl htc htq
    refine ⟨htc, heap_setRow_other w b c _ ?_⟩
    rintro rfl
    rw [ht] at htc
    injection htc with h1 h2
    subst h1; subst h2
    rcases htq with htq | htq
    · exact htq rfl
    · rw [hpp] at htq; cases htq
  · intro y t hy
    cases y with
    | nil => exact .inr ⟨⟨fun _ => by rw [hob]; simp [AO.at], fun _ _ he => by simp [AO.at] at he, fun E' l' he => by
        simp [AO.at] at he
        refine ⟨l, by rw [hob]; simp [AO.at, he.1], ?_⟩
        rw [← he.2]; simp⟩, rfl⟩
    | cons k y => exact .inl rfl
  · refine ⟨rfl, rfl, rfl, by omega, hpf, fun c hcl htc => ⟨htc, heap_setRow_other w b c _ ?_⟩, fun c htc => ⟨htc, ?_⟩, fun c hc => h.inv.fresh c (by omega)⟩
    · rintro rfl; rw [ht] at htc; cases htc
    · rcases Nat.lt_or_ge c w.heap.size with h' | h'
      · exact h'
      · have := h.inv.fresh c h'
        rw [htc] at this; cases this

end
end Go.V

namespace Go.V
section
variable {P : Program} {N : Nat} {st st' : St} {a : Act} {hv : List Value} {w w' : World} {g g' : G} {K : St → R} {r : List AO × List AO} {o : Oper} {next : Act → World → Prop} {Q : Exit → Act → World → Prop} {call : CallF}

theorem SRep.moved_keep {i d t : Nat} {q0 : List Nat} {x : AV} {v : Value} (h : SRep P w g st t x v) (hx : ∀ y, x ≠ .o y) (hs : w.heap.size ≤ w'.heap.size)
    (hf : ∀ b, b < w.heap.size → g.tag b = .free → g'.tag b = .free ∧ w'.heap[b]? = w.heap[b]?)
    (hi : ∀ z, Compat (obj st' d (q0 ++ z)) (obj st i z) ∧ g'.val d (q0 ++ z) = g.val i z)
    (hr : ∀ s p, s ≠ i → (x = .al s p ∨ (∃ off, x = .ptr s p off) ∨ (∃ j off, x = .el s p j off)) → (obj st' s p = .dead) ∨ (Compat (obj st' s p) (obj st s p) ∧ g'.val s p = g.val s p)) :
    SRep P w' g' st' t (x.moved i [] d q0) v := by
  by_cases href : ∃ p, x = .al i p ∨ (∃ off, x = .ptr i p off) ∨ (∃ j off, x = .el i p j off)
  · obtain ⟨p, rfl | ⟨off, rfl⟩ | ⟨j, off, rfl⟩⟩ := href
    · cases h with
      | al _ _ _ h =>
        simp only [AV.moved, pre_nil, nbeq, decide_true, Bool.and_true, cond_true, List.length_nil, List.drop_zero]
        obtain ⟨h1, h2⟩ := hi p
        exact .al d _ v (fun hd => by rw [h2]; exact h (h1.live hd))
    · cases h with
      | ptr _ _ _ _ h =>
        simp only [AV.moved, pre_nil, nbeq, decide_true, Bool.and_true, cond_true, List.length_nil, List.drop_zero]
        obtain ⟨h1, h2⟩ := hi p
        exact .ptr d _ off v (fun E cs he => by rw [h2]; obtain ⟨E0, cs', hc⟩ := h1.box E cs he; exact h E0 cs' hc)
    · cases h with
      | el _ _ _ _ _ h =>
        simp only [AV.moved, pre_nil, nbeq, decide_true, Bool.and_true, cond_true, List.length_nil, List.drop_zero]
        obtain ⟨h1, h2⟩ := hi p
        exact .el d _ j off v (fun E l he => by rw [h2]; obtain ⟨l0, e1, e2⟩ := h1.arr E l he; rw [e2]; exact h E l0 e1)
  · have hm : x.moved i [] d q0 = x := by
      cases x with
      | al s p =>
        have : ¬ i = s := fun he => href ⟨p, .inl (by rw [he])⟩
        simp [AV.moved, nbeq, this]
      | ptr s p off =>
        have : ¬ i = s := fun he => href ⟨p, .inr (.inl ⟨off, by rw [he]⟩)⟩
        simp [AV.moved, nbeq, this]
      | el s p j off =>
        have : ¬ i = s := fun he => href ⟨p, .inr (.inr ⟨j, off, by rw [he]⟩)⟩
        simp [AV.moved, nbeq, this]
      | _ => rfl
    rw [hm]
    refine h.keep2 hs hf hx (fun s p hsp => hr s p (fun he => href ⟨p, ?_⟩) hsp)
    subst he
    exact hsp

theorem moved_o (i : Nat) (d : Nat) (q : List Nat) (x : AV) (y : AO) : x.moved i [] d q = .o y ↔ x = .o y := by
  cases x with
  | al s p => simp only [AV.moved]; cases (Nat.beq i s && pre [] p) <;> simp
  | ptr s p off => simp only [AV.moved]; cases (Nat.beq i s && pre [] p) <;> simp
  | el s p j off => simp only [AV.moved]; cases (Nat.beq i s && pre [] p) <;> simp
  | o z => simp [AV.moved]
  | ip => simp [AV.moved]
  | tup => simp [AV.moved]
  | dead => simp [AV.moved]

theorem length_moveTo (i s : Nat) (p : List Nat) (st : St) : (moveTo i s p st).length = st.length := by simp [moveTo]

theorem get_moveTo (i s : Nat) (p : List Nat) (st : St) (t : Nat) : get (moveTo i s p st) t = if t = i ∧ i < st.length then .al s p else (get st t).moved i [] s p := by
  unfold moveTo
  rw [get_set, List.length_map, get_map _ (by rfl)]

theorem get_o_lt {st : St} {s : Nat} {x : AO} (h : get st s = .o x) : s < st.length := by
  rcases Nat.lt_or_ge s st.length with h' | h'
  · exact h'
  · rw [get, nth_eq, List.getElem?_eq_none h'] at h; cases h

/-- The ghosts behind the way of slot i's object to (d, q). -/
def G.move (g : G) (i d : Nat) (q : List Nat) : G :=
  { tag := fun b => match g.tag b with | .own t z => if t = i then .own d (q ++ z) else .own t z | x => x,
    val := fun t z => if t = d ∧ pre q z = true then g.val i (z.drop q.length) else g.val t z }

theorem G.move_free {i d : Nat} {q : List Nat} {b : Nat} (h : g.tag b = .free) : (g.move i d q).tag b = .free := by simp [G.move, h]
theorem G.move_out {i d : Nat} {q : List Nat} {b : Nat} (h : g.tag b = .out) : (g.move i d q).tag b = .out := by simp [G.move, h]
theorem G.move_own {i d : Nat} {q : List Nat} {b : Nat} {z : List Nat} (h : g.tag b = .own i z) : (g.move i d q).tag b = .own d (q ++ z) := by simp [G.move, h]
theorem G.move_other {i d : Nat} {q : List Nat} {b t : Nat} {z : List Nat} (h : g.tag b = .own t z) (ht : t ≠ i) : (g.move i d q).tag b = .own t z := by simp [G.move, h, ht]
theorem G.move_val (g : G) (i d : Nat) (q z : List Nat) : (g.move i d q).val d (q ++ z) = g.val i z := by
  have : pre q (q ++ z) = true := (pre_iff _ _).2 ⟨z, rfl⟩
  simp [G.move, this]
theorem G.move_val_not (g : G) (i d : Nat) (q : List Nat) (t : Nat) (z : List Nat) (h : t ≠ d ∨ pre q z = false) : (g.move i d q).val t z = g.val t z := by
  simp only [G.move]
  rw [if_neg]
  rintro ⟨h1, h2⟩
  rcases h with h | h
  · exact h h1
  · rw [h] at h2; cases h2
theorem G.move_isOut {i d : Nat} {q : List Nat} {b : Nat} (h : (g.move i d q).tag b = .out) : g.tag b = .out := by
  simp only [G.move] at h
  cases ht : g.tag b with
  | free => rw [ht] at h; cases h
  | out => rfl
  | own t z => rw [ht] at h; simp only at h; split at h <;> cases h

theorem evL_assign (h : Good P N st a hv w g) {i d : Nat} (hop : o.op = .assign (.tmp i)) (hd : o.dst = some d) (hi : i < N) (hdN : d < N) (hne : d ≠ i) {z : AO} (hz : get st i = .o z) (hzd : z ≠ .dead)
    (hk : K ((moveTo i d [] (kill d [] st)).set d (.o z)) = some r) (hpost : ThenL P N hv w g K r next) : o.wp P a w next Q := by
  have hrun : (execOp a.eval o).run P w = .ok (.value (a.eval (.tmp i))) w := by simp [execOp, hop]
  have hsi := h.slotAt hi hz
  have hvi : a.eval (.tmp i) = g.val i [] := by
    cases hsi with
    | o _ _ hv0 _ => exact hv0 hzd
  have hlen := h.len
  have hsz := h.sz
  have hst1 := h.kill d []
  have hpf : ∀ b, b < w.heap.size → g.tag b = .free → (g.move i d []).tag b = .free ∧ w.heap[b]? = w.heap[b]? := fun b _ hb => ⟨G.move_free hb, rfl⟩
  have hfr : ∀ b, w.heap.size ≤ b → (g.move i d []).tag b = .free := fun b hb => G.move_free (h.inv.fresh b hb)
  have hgz : get (kill d [] st) i = .o z := (get_kill_o d [] st i z).1 hz
  have hget : ∀ t, get ((moveTo i d [] (kill d [] st)).set d (.o z)) t = if t = d then .o z else if t = i then .al d [] else (get (kill d [] st) t).moved i [] d [] := by
    intro t
    rw [get_set, length_moveTo, length_kill, get_moveTo, length_kill]
    by_cases h1 : t = d
    · rw [if_pos ⟨h1, by omega⟩, if_pos h1]
    · rw [if_neg (fun hh => h1 hh.1), if_neg h1]
      by_cases h2 : t = i
      · rw [if_pos ⟨h2, by omega⟩, if_pos h2]
      · rw [if_neg (fun hh => h2 hh.1), if_neg h2]
  have hobj : ∀ t q, t ≠ d → t ≠ i → obj ((moveTo i d [] (kill d [] st)).set d (.o z)) t q = obj st t q := by
    intro t q h1 h2
    refine obj_of_get (fun x => ?_) q
    rw [hget, if_neg h1, if_neg h2, moved_o, ← get_kill_o]
  have hobd : ∀ q, obj ((moveTo i d [] (kill d [] st)).set d (.o z)) d q = z.at q := by
    intro q; unfold obj; rw [hget, if_pos rfl]
  have hobi : ∀ q, obj st i q = z.at q := by intro q; unfold obj; rw [hz]
  unfold Oper.wp
  rw [hrun]
  show next (a.put o.dst _) w
  rw [hd]
  refine hpost _ _ w (g.move i d []) ⟨⟨?_, ?_, hfr, h.inv.vars.keep (Nat.le_refl _) hpf⟩, by simp [Act.put, hsz], by simpa [Act.put] using h.dfr⟩ ?_ hk
  · have := h.inv.len
    rw [List.length_set, length_moveTo, length_kill]; simp [Act.put] at this ⊢; exact this
  · intro t x u hx hu
    have hgx := get_of_getElem? hx
    have htl : t < st.length := by
      have := (List.getElem?_eq_some_iff.1 hx).1
      rw [List.length_set, length_moveTo, length_kill] at this; exact this
    rw [hget] at hgx
    by_cases htd : t = d
    · subst htd
      rw [if_pos rfl] at hgx
      subst hgx
      have hu' : u = a.eval (.tmp i) := by
        rw [List.getElem?_append_left (by simp [Act.put]; omega)] at hu
        simp [Act.put, hsz, hdN] at hu; exact hu.symm
      refine .o z u (fun _ => by rw [hu', hvi]; exact (G.move_val g i t [] []).symm) ?_
      cases hsi with
      | o _ _ _ hor =>
        refine hor.ext (s' := t) (p' := []) (Nat.le_refl _) hpf (fun q => ?_) (fun b q hb ht => ⟨?_, rfl⟩)
        · simpa using G.move_val g i t [] q
        · simpa using G.move_own (d := t) (q := []) (by simpa using ht)
    · rw [if_neg htd] at hgx
      have hus : (a.tmps.toList ++ hv)[t]? = some u := by
        rw [← hu]
        by_cases hsN : t < N
        · rw [List.getElem?_append_left (by simp; omega), List.getElem?_append_left (by simp [Act.put]; omega)]
          simp [Act.put, Ne.symm htd]
        · rw [List.getElem?_append_right (by simp; omega), List.getElem?_append_right (by simp [Act.put]; omega)]
          simp [Act.put]
      by_cases hti : t = i
      · subst hti
        rw [if_pos rfl] at hgx
        subst hgx
        refine .al d [] u (fun _ => ?_)
        have : u = a.eval (.tmp t) := by
          rw [List.getElem?_append_left (by simp; omega)] at hus
          rw [eval_lt a (by omega)] at hus; exact (Option.some.inj hus).symm
        rw [this, hvi]; exact (G.move_val g t d [] []).symm
      · rw [if_neg hti] at hgx
        have hsr := hst1.get_lt (by rw [length_kill]; exact htl) hus
        by_cases hox : ∃ y, get (kill d [] st) t = .o y
        · obtain ⟨y, hy⟩ := hox
          rw [hy] at hgx hsr
          subst hgx
          simp only [AV.moved]
          cases hsr with
          | o _ _ hv0 hor =>
            exact .o y u (fun hd => by rw [hv0 hd, G.move_val_not _ _ _ _ _ _ (.inl htd)]) (hor.ext (Nat.le_refl _) hpf (fun q => by simpa using G.move_val_not g i d [] t q (.inl htd)) (fun b q hb ht => ⟨by simpa using G.move_other (d := d) (q := []) (by simpa using ht) hti, rfl⟩))
        · subst hgx
          refine hsr.moved_keep (fun y hy => hox ⟨y, hy⟩) (Nat.le_refl _) hpf (fun q => ?_) (fun s p hsi' hsp => ?_)
          · rw [List.nil_append, hobd, obj_kill, hobi]
            exact ⟨Compat.refl _, G.move_val g i d [] q⟩
          · have hsd : s ≠ d := by
              rintro rfl
              have hkk : (get (kill s [] st) t).rooted s [] = false := by rw [rooted_kill]; cases (get st t).rooted s [] <;> rfl
              rcases hsp with hsp | ⟨_, hsp⟩ | ⟨_, _, hsp⟩ <;> rw [hsp] at hkk <;> simp [AV.rooted, pre_nil] at hkk
            rw [hobj s p hsd hsi', obj_kill]
            exact .inr ⟨Compat.refl _, G.move_val_not _ _ _ _ _ _ (.inl hsd)⟩
  · refine ⟨rfl, rfl, rfl, Nat.le_refl _, hpf, fun c _ htc => ⟨G.move_out htc, rfl⟩, fun c htc => ?_, hfr⟩
    have htc' := G.move_isOut htc
    refine ⟨htc', ?_⟩
    rcases Nat.lt_or_ge c w.heap.size with h' | h'
    · exact h'
    · rw [h.inv.fresh c h'] at htc'; cases htc'

end
end Go.V

namespace Go.V
section
variable {P : Program} {N : Nat} {st st' : St} {a : Act} {hv : List Value} {w w' : World} {g g' : G} {K : St → R} {r : List AO × List AO} {o : Oper} {next : Act → World → Prop} {Q : Exit → Act → World → Prop} {call : CallF}

theorem pre_trans {p q z : List Nat} (h : pre p z = false) : pre (p ++ q) z = false := by
  cases hq : pre (p ++ q) z with
  | false => rfl
  | true =>
    obtain ⟨y, rfl⟩ := (pre_iff _ _).1 hq
    rw [(pre_iff p _).2 ⟨q ++ y, by simp⟩] at h; cases h

theorem good_moveIn (h : Good P N st a hv w g) {i s off : Nat} {p : List Nat} {z : AO} {E : TypeId} {cs : List AO} (hz : get st i = .o z) (hzd : z ≠ .dead) (hne : i ≠ s) (hob : obj st s p = .box E cs) (hoff : cs[off]? = some .dead)
    (hval : ∀ b vs T, g.val s p = .pointer (some ⟨b, 0, none⟩) → w.heap[b]? = some (.cells ⟨vs⟩ T (0, 0)) → vs[off]? = some (g.val i []))
    (href : ∀ t, (get st t).rooted s (p ++ [off]) = false) :
    ∃ g', Good P N (moveIn i s p off z st) a hv w g' ∧ Fr w g w g' := by
  have hdef : moveIn i s p off z st = setObj (moveTo i s (p ++ [off]) st) s p (.box E (cs.set off z)) := by unfold moveIn; rw [hob]
  have hlen := h.len
  have hpf : ∀ b, b < w.heap.size → g.tag b = .free → (g.move i s (p ++ [off])).tag b = .free ∧ w.heap[b]? = w.heap[b]? := fun b _ hb => ⟨G.move_free hb, rfl⟩
  have hfr : ∀ b, w.heap.size ≤ b → (g.move i s (p ++ [off])).tag b = .free := fun b hb => G.move_free (h.inv.fresh b hb)
  have hget : ∃ x, get st s = .o x := by
    have hl : obj st s p ≠ .dead := by rw [hob]; simp
    unfold obj at hl
    split at hl
    · exact ⟨_, by assumption⟩
    · exact absurd rfl hl
  obtain ⟨x, hx⟩ := hget
  have hxp : x.at p = .box E cs := by have := hob; unfold obj at this; rw [hx] at this; exact this
  have hil := get_o_lt hz
  have hsl := get_o_lt hx
  have hmo : get (moveTo i s (p ++ [off]) st) s = .o x := by
    rw [get_moveTo, if_neg (fun hh => hne hh.1.symm), hx]; rfl
  have hst' : moveIn i s p off z st = (moveTo i s (p ++ [off]) st).set s (.o (AO.upd (.box E (cs.set off z)) x p)) := by
    rw [hdef]; unfold setObj; rw [hmo]
  have hg : ∀ t, get (moveIn i s p off z st) t = if t = s then .o (AO.upd (.box E (cs.set off z)) x p) else if t = i then .al s (p ++ [off]) else (get st t).moved i [] s (p ++ [off]) := by
    intro t
    rw [hst', get_set, length_moveTo, get_moveTo]
    by_cases h1 : t = s
    · rw [if_pos ⟨h1, hsl⟩, if_pos h1]
    · rw [if_neg (fun hh => h1 hh.1), if_neg h1]
      by_cases h2 : t = i
      · rw [if_pos ⟨h2, hil⟩, if_pos h2]
      · rw [if_neg (fun hh => h2 hh.1), if_neg h2]
  have hlt : off < cs.length := (List.getElem?_eq_some_iff.1 hoff).1
  have hoi : ∀ q, obj st i q = z.at q := by intro q; unfold obj; rw [hz]
  have hos : ∀ q, obj (moveIn i s p off z st) s q = (AO.upd (.box E (cs.set off z)) x p).at q := by intro q; unfold obj; rw [hg, if_pos rfl]
  have hoo : ∀ t q, t ≠ s → t ≠ i → obj (moveIn i s p off z st) t q = obj st t q := by
    intro t q h1 h2
    refine obj_of_get (fun y => ?_) q
    rw [hg, if_neg h1, if_neg h2, moved_o]
  have hlive : x.at p ≠ .dead := by rw [hxp]; simp
  have hext : ∀ q, (AO.upd (.box E (cs.set off z)) x p).at (p ++ q) = (AO.box E (cs.set off z)).at q := fun q => upd_at_ext _ p x q hlive
  have hpo : pre (p ++ [off]) p = false := by
    cases hq : pre (p ++ [off]) p with
    | false => rfl
    | true => obtain ⟨y, hy⟩ := (pre_iff _ _).1 hq; have := congrArg List.length hy; simp at this
  refine ⟨g.move i s (p ++ [off]), h.mk' (by rw [hst', List.length_set, length_moveTo]) hfr (h.inv.vars.keep (Nat.le_refl _) hpf) (fun t u ht hu => ?_), ?_⟩
  · have hsr := h.get_lt ht hu
    rw [hg]
    by_cases hts : t = s
    · subst hts
      rw [if_pos rfl]
      rw [hx] at hsr
      cases hsr with
      | o _ _ hv0 hor =>
        have hxd : x ≠ .dead := by rintro rfl; exact hlive (at_dead p)
        have hobp := hor.at p
        rw [hxp, List.nil_append] at hobp
        refine .o _ u (fun _ => ?_) (hor.upd (Nat.le_refl _) hpf p [] x ?_ (fun q hq => G.move_val_not _ _ _ _ _ _ (.inr (pre_trans (by simpa using hq)))) (fun b q hb htb hq => ⟨G.move_other htb (fun hh => hne hh.symm), rfl⟩) (fun _ => ⟨hlive, ?_⟩))
        · rw [hv0 hxd]
          refine (G.move_val_not _ _ _ _ _ _ (.inr ?_)).symm
          cases p <;> rfl
        · rw [List.nil_append]
          cases hobp with
          | box _ _ _ b vs hv' hh htg hl hc hcv =>
            refine .box p E _ b vs (by rw [G.move_val_not _ _ _ _ _ _ (.inr hpo)]; exact hv') hh (G.move_other htg (fun hh => hne hh.symm)) (by rw [List.length_set]; exact hl) (fun k y hk => ?_) (fun k y hk hd => ?_)
            · rw [List.getElem?_set] at hk
              split at hk
              · rename_i hok
                subst hok
                have hzy : z = y := by simpa [hlt] using hk
                subst hzy
                refine (h.owner hz).ext (Nat.le_refl _) hpf (fun q => by rw [List.nil_append]; exact G.move_val _ _ _ _ _) (fun c q hcl htc => ⟨?_, rfl⟩)
                exact G.move_own (by simpa using htc)
              · rename_i hok
                refine (hc k y hk).ext (Nat.le_refl _) hpf (fun q => G.move_val_not _ _ _ _ _ _ (.inr ?_)) (fun c q hcl htc => ⟨G.move_other htc (fun hh => hne hh.symm), rfl⟩)
                cases hq : pre (p ++ [off]) (p ++ [k] ++ q) with
                | false => rfl
                | true => obtain ⟨y', hy⟩ := (pre_iff _ _).1 hq; simp at hy; exact absurd hy.1.symm hok
            · rw [List.getElem?_set] at hk
              split at hk
              · rename_i hok
                subst hok
                have := G.move_val g i t (p ++ [off]) []
                rw [List.append_nil] at this
                rw [this]
                exact hval b vs E hv' hh
              · rename_i hok
                rw [hcv k y hk hd, G.move_val_not _ _ _ _ _ _ (.inr ?_)]
                cases hq : pre (p ++ [off]) (p ++ [k]) with
                | false => rfl
                | true => obtain ⟨y', hy⟩ := (pre_iff _ _).1 hq; simp at hy; exact absurd hy.1.symm hok
        · rw [List.nil_append]; exact G.move_val_not _ _ _ _ _ _ (.inr hpo)
    · rw [if_neg hts]
      by_cases hti : t = i
      · subst hti
        rw [if_pos rfl]
        rw [hz] at hsr
        cases hsr with
        | o _ _ hv0 _ =>
          refine .al s _ u (fun _ => ?_)
          have := G.move_val g t s (p ++ [off]) []
          rw [List.append_nil] at this
          rw [this, hv0 hzd]
      · rw [if_neg hti]
        by_cases hox : ∃ y, get st t = .o y
        · obtain ⟨y, hy⟩ := hox
          rw [hy] at hsr ⊢
          simp only [AV.moved]
          cases hsr with
          | o _ _ hv0 hor =>
            exact .o y u (fun hd => by rw [hv0 hd, G.move_val_not _ _ _ _ _ _ (.inl hts)]) (hor.ext (Nat.le_refl _) hpf (fun q => by simpa using G.move_val_not g i s (p ++ [off]) t q (.inl hts)) (fun b q hb htb => ⟨by simpa using G.move_other (d := s) (q := p ++ [off]) (by simpa using htb) hti, rfl⟩))
        · refine hsr.moved_keep (fun y hy => hox ⟨y, hy⟩) (Nat.le_refl _) hpf (fun q => ?_) (fun s' p' hsi' hsp => ?_)
          · rw [hos, List.append_assoc, hext, hoi]
            have : (AO.box E (cs.set off z)).at ([off] ++ q) = z.at q := by
              simp only [List.singleton_append, AO.at, nth_set, hlt, and_self, if_true]
            rw [this]
            refine ⟨Compat.refl _, ?_⟩
            have := G.move_val g i s (p ++ [off]) q
            rw [List.append_assoc] at this; exact this
          · by_cases hs' : s' = s
            · subst hs'
              rw [hos]
              have hobx : obj st s' p' = x.at p' := by unfold obj; rw [hx]
              rw [hobx]
              cases hpp : pre p p' with
              | false => exact .inr ⟨upd_at_not _ p x p' hpp, G.move_val_not _ _ _ _ _ _ (.inr (pre_trans hpp))⟩
              | true =>
                obtain ⟨q, rfl⟩ := (pre_iff _ _).1 hpp
                rw [hext, at_append, hxp]
                have hrt := href t
                cases q with
                | nil =>
                  simp only [AO.at, List.append_nil]
                  exact .inr ⟨⟨fun _ => by simp, fun E' cs' he => ⟨E, cs, rfl⟩, fun _ _ he => by simp at he⟩, G.move_val_not _ _ _ _ _ _ (.inr hpo)⟩
                | cons k q =>
                  have hk : k ≠ off := by
                    rintro rfl
                    have hpk : pre (p ++ [k]) (p ++ k :: q) = true := (pre_iff _ _).2 ⟨q, by simp⟩
                    rcases hsp with hsp | ⟨_, hsp⟩ | ⟨_, _, hsp⟩ <;> rw [hsp] at hrt <;> simp [AV.rooted, hpk] at hrt
                  have : (AO.box E (cs.set off z)).at (k :: q) = (AO.box E cs).at (k :: q) := by
                    simp only [AO.at, nth_set, hk, false_and, if_false]
                  rw [this]
                  refine .inr ⟨Compat.refl _, G.move_val_not _ _ _ _ _ _ (.inr ?_)⟩
                  cases hq : pre (p ++ [off]) (p ++ k :: q) with
                  | false => rfl
                  | true => obtain ⟨y', hy⟩ := (pre_iff _ _).1 hq; simp at hy; exact absurd hy.1 hk
            · rw [hoo s' p' hs' hsi']
              exact .inr ⟨Compat.refl _, G.move_val_not _ _ _ _ _ _ (.inl hs')⟩
  · refine ⟨rfl, rfl, rfl, Nat.le_refl _, hpf, fun c _ htc => ⟨G.move_out htc, rfl⟩, fun c htc => ?_, hfr⟩
    have htc' := G.move_isOut htc
    refine ⟨htc', ?_⟩
    rcases Nat.lt_or_ge c w.heap.size with h' | h'
    · exact h'
    · rw [h.inv.fresh c h'] at htc'; cases htc'

end
end Go.V

namespace Go.V
section
variable {P : Program} {N : Nat} {st st' : St} {a : Act} {hv : List Value} {w w' : World} {g g' : G} {K : St → R} {r : List AO × List AO} {o : Oper} {next : Act → World → Prop} {Q : Exit → Act → World → Prop} {call : CallF}

/-- What lives stays, where it is; of what is dead nothing is asked. -/
theorem ORep.extLive {s : Nat} {p : List Nat} {x : AO} (h : ORep P w g s p x) (hs : w.heap.size ≤ w'.heap.size)
    (hf : ∀ b, b < w.heap.size → g.tag b = .free → g'.tag b = .free ∧ w'.heap[b]? = w.heap[b]?) :
    (∀ q, x.at q ≠ .dead → g'.val s (p ++ q) = g.val s (p ++ q)) →
    (∀ b q, b < w.heap.size → g.tag b = .own s (p ++ q) → x.at q ≠ .dead → g'.tag b = .own s (p ++ q) ∧ w'.heap[b]? = w.heap[b]?) → ORep P w' g' s p x := by
  induction h with
  | pv p t x h =>
    intro hv _
    refine .pv p t x ?_
    have := hv [] (by simp [AO.at]); rw [List.append_nil] at this
    rw [this]; exact h.ext hs hf
  | dead p => intro _ _; exact .dead p
  | box p E cs b vs hv hh ht hl _ hcv ih =>
    intro hv' ho
    have h0 := hv' [] (by simp [AO.at]); rw [List.append_nil] at h0
    have hb : b < w.heap.size := by
      rcases Nat.lt_or_ge b w.heap.size with h | h
      · exact h
      · rw [Array.getElem?_eq_none h] at hh; cases hh
    obtain ⟨t1, t2⟩ := ho b [] hb (by simpa using ht) (by simp [AO.at])
    have hat : ∀ (i : Nat) (x : AO) (q : List Nat), cs[i]? = some x → (AO.box E cs).at (i :: q) = x.at q := by
      intro i x q hx; simp only [AO.at, nth_eq, hx, Option.getD_some]
    refine .box p E cs b vs (by rw [h0]; exact hv) (by rw [t2]; exact hh) (by simpa using t1) hl (fun i x hx => ?_) (fun i x hx hd => ?_)
    · refine ih i x hx (fun q hq => ?_) (fun b q hb hbt hq => ?_)
      · have := hv' (i :: q) (by rw [hat i x q hx]; exact hq); simpa using this
      · have := ho b (i :: q) hb (by simpa using hbt) (by rw [hat i x q hx]; exact hq); simpa using this
    · rw [hcv i x hx hd]
      have := hv' [i] (by rw [hat i x [] hx]; simpa [AO.at] using hd)
      rw [this]
  | narr p E hv =>
    intro hv' ho
    have h0 := hv' [] (by simp [AO.at]); rw [List.append_nil] at h0
    exact .narr p E (by rw [h0]; exact hv)
  | arr p E l b off cap vs f T hv hh ht hl hcap he hc =>
    intro hv' ho
    have h0 := hv' [] (by simp [AO.at]); rw [List.append_nil] at h0
    have hb : b < w.heap.size := by
      rcases Nat.lt_or_ge b w.heap.size with h | h
      · exact h
      · rw [Array.getElem?_eq_none h] at hh; cases hh
    obtain ⟨t1, t2⟩ := ho b [] hb (by simpa using ht) (by simp [AO.at])
    exact .arr p E l b off cap vs f T (by rw [h0]; exact hv) (by rw [t2]; exact hh) (by simpa using t1) hl hcap (fun i x hx => (he i x hx).ext hs hf) hc

/-- The world moves on; what lives is as it was. -/
theorem good_world (h : Good P N st a hv w g) (hs : w.heap.size ≤ w'.heap.size) (hf : ∀ b, b < w.heap.size → g.tag b = .free → g'.tag b = .free ∧ w'.heap[b]? = w.heap[b]?)
    (hfr : ∀ b, w'.heap.size ≤ b → g'.tag b = .free) (hval : ∀ t q, obj st t q ≠ .dead → g'.val t q = g.val t q)
    (ho : ∀ b t q, b < w.heap.size → g.tag b = .own t q → obj st t q ≠ .dead → g'.tag b = .own t q ∧ w'.heap[b]? = w.heap[b]?) : Good P N st a hv w' g' := by
  refine h.mk' rfl hfr (h.inv.vars.keep hs hf) (fun t u ht hu => ?_)
  have hsr := h.get_lt ht hu
  by_cases hox : ∃ y, get st t = .o y
  · obtain ⟨y, hy⟩ := hox
    have hob : ∀ q, obj st t q = y.at q := by intro q; unfold obj; rw [hy]
    rw [hy] at hsr ⊢
    cases hsr with
    | o _ _ hv0 hor =>
      refine .o y u (fun hd => ?_) (hor.extLive hs hf (fun q hq => ?_) (fun b q hb htb hq => ?_))
      · rw [hv0 hd, hval t [] (by rw [hob]; exact hd)]
      · simpa using hval t q (by rw [hob]; exact hq)
      · simpa using ho b t q hb (by simpa using htb) (by rw [hob]; exact hq)
  · refine hsr.keep2 hs hf (fun y hy => hox ⟨y, hy⟩) (fun s p hsp => ?_)
    by_cases hd : obj st s p = .dead
    · exact .inl hd
    · exact .inr ⟨Compat.refl _, hval s p hd⟩

theorem kill_idem (d : Nat) (p : List Nat) (st : St) : kill d p (kill d p st) = kill d p st := by
  unfold kill
  rw [List.map_map]
  apply List.map_congr_left
  intro v _
  simp only [Function.comp]
  cases hr : v.rooted d p
  · simp only [cond_false, hr]
  · rfl

theorem kill_set_dead (d i : Nat) (p : List Nat) (st : St) : kill d p (st.set i .dead) = (kill d p st).set i .dead := by
  unfold kill; rw [List.map_set]; rfl

theorem put_put (d : Nat) (v : AV) (st : St) : put d v (put d .dead st) = put d v st := by
  unfold put
  rw [kill_set_dead, kill_idem, List.set_set]

theorem act_put_put (a : Act) (d : Nat) (u v : Value) : (a.put (some d) u).put (some d) v = a.put (some d) v := by
  simp [Act.put]

/-- What slot d held is given up; then the world moves on; then slot d gets an object. -/
theorem good_fresh (h : Good P N st a hv w g) {d : Nat} (hd : d < N) {x : AO} {v : Value} (hs : w.heap.size ≤ w'.heap.size) (hf : ∀ b, b < w.heap.size → g.tag b = .free → g'.tag b = .free ∧ w'.heap[b]? = w.heap[b]?)
    (hfr : ∀ b, w'.heap.size ≤ b → g'.tag b = .free) (hval : ∀ t q, t ≠ d → obj st t q ≠ .dead → g'.val t q = g.val t q)
    (ho : ∀ b t q, b < w.heap.size → g.tag b = .own t q → t ≠ d → obj st t q ≠ .dead → g'.tag b = .own t q ∧ w'.heap[b]? = w.heap[b]?)
    (hx : ORep P w' g' d [] x) (hv' : x ≠ .dead → v = g'.val d []) : Good P N (put d (.o x) st) (a.put (some d) v) hv w' g' := by
  have h1 : Good P N (put d .dead st) (a.put (some d) v) hv w g := h.put hd (QFr.refl w g _ h.inv.fresh) (.dead v)
  have hod : ∀ q, obj (put d .dead st) d q = .dead := by
    intro q; unfold obj; rw [get_put]
    have := h.len
    rw [if_pos ⟨rfl, by omega⟩]
  have h2 : Good P N (put d .dead st) (a.put (some d) v) hv w' g' := by
    refine good_world h1 hs hf hfr (fun t q hl => ?_) (fun b t q hb ht hl => ?_)
    · by_cases htd : t = d
      · subst htd; exact absurd (hod q) hl
      · exact hval t q htd (by rw [← obj_put .dead htd q]; exact hl)
    · by_cases htd : t = d
      · subst htd; exact absurd (hod q) hl
      · exact ho b t q hb ht htd (by rw [← obj_put .dead htd q]; exact hl)
  have h3 := h2.put hd (QFr.refl w' g' (some d) hfr) (av := .o x) (v := v) (.o x v hv' hx)
  rw [put_put, act_put_put] at h3
  exact h3

/-- An object is given up where it lies. -/
theorem good_drop (h : Good P N st a hv w g) (s : Nat) (p : List Nat) (hl : obj st s p ≠ .dead) : Good P N (kill s p (setObj st s p .dead)) a hv w g ∧ (∀ q, obj (kill s p (setObj st s p .dead)) s (p ++ q) = .dead) ∧
    (∀ t q, (t ≠ s ∨ pre p q = false) → Compat (obj (kill s p (setObj st s p .dead)) t q) (obj st t q)) := by
  have hget : ∃ x, get st s = .o x := by
    unfold obj at hl
    split at hl
    · exact ⟨_, by assumption⟩
    · exact absurd rfl hl
  obtain ⟨x, hx⟩ := hget
  have hsl := get_o_lt hx
  have hst : setObj st s p .dead = st.set s (.o (AO.upd .dead x p)) := by unfold setObj; rw [hx]
  have hxp : x.at p = obj st s p := by unfold obj; rw [hx]
  have hos : ∀ q, obj (setObj st s p .dead) s q = (AO.upd .dead x p).at q := by
    intro q; unfold obj; rw [hst, get_set, if_pos ⟨rfl, hsl⟩]
  refine ⟨(good_setObj h hl (Nat.le_refl _) (fun _ _ hb => ⟨hb, rfl⟩) h.inv.fresh (.dead p) (fun _ _ _ => rfl) (fun hd => absurd rfl hd) (fun _ _ _ _ ht _ => ⟨ht, rfl⟩) (fun q _ _ => .inl (at_dead q))).kill s p, fun q => ?_, fun t q hq => ?_⟩
  · rw [obj_kill, hos, upd_at_ext _ p x q (by rw [hxp]; exact hl), at_dead]
  · rw [obj_kill]
    by_cases hts : t = s
    · subst hts
      rcases hq with hq | hq
      · exact absurd rfl hq
      · rw [hos]
        have : obj st t q = x.at q := by unfold obj; rw [hx]
        rw [this]; exact upd_at_not .dead p x q hq
    · rw [hst, obj_set _ hts]; exact Compat.refl _

end
end Go.V

namespace Go.V
section
variable {P : Program} {N : Nat} {st : St} {a : Act} {hv : List Value} {w w' : World} {g g' : G} {K : St → R} {r : List AO × List AO} {o : Oper} {next : Act → World → Prop} {Q : Exit → Act → World → Prop} {call : CallF}

theorem append_eq {A : Array TypeId} {vs : Array Value} {T U ty : TypeId} {x y : Value} (h0 : A[0]? = some T) (h1 : A[1]? = some U) (h2 : vs[0]? = some x) (h3 : vs[1]? = some y) :
    Builtin.append_ A ty vs = Builtin.append_ #[T, U] ty #[x, y] := by
  unfold Builtin.append_
  simp only [h0, h1, h2, h3]
  rfl

theorem run_append_nothing_lem (w : World) (t tx ty e : TypeId) (i : TypeInfo) (ht : P.underlying t = some (.slice e)) (hi : P.info? e = some i) (x : Value) (hs : Src P i.size tx x 0 [] w) :
    (Builtin.append_ #[t, tx] ty #[.slice none 0 0, x]).run P w = .ok (.slice none 0 0) w := by
  rcases hs.kind with ⟨e', hk⟩ | hk <;> simp [Builtin.append_, run_underlying ht, run_underlying hk, sizeOf, typeInfo, hi, hs.len, hs.cells, storeCells]

theorem cells_mid (vs news : List Value) (k : Nat) (h : k + news.length ≤ vs.length) :
    (vs.take k ++ news ++ vs.drop (k + news.length)).length = vs.length ∧ (∀ i, i < k → (vs.take k ++ news ++ vs.drop (k + news.length))[i]? = vs[i]?) ∧
    ∀ i, i < news.length → (vs.take k ++ news ++ vs.drop (k + news.length))[k + i]? = news[i]? := by
  refine ⟨by simp; omega, fun i hi => ?_, fun i hi => ?_⟩
  · rw [List.append_assoc, List.getElem?_append_left (by simp; omega), List.getElem?_take, if_pos hi]
  · rw [List.append_assoc, List.getElem?_append_right (by simp; omega)]
    have e : k + i - (vs.take k).length = i := by simp; omega
    rw [e, List.getElem?_append_left hi]

/-- There is room. -/
theorem run_append_in (t tx ty e : TypeId) (i : TypeInfo) (ht : P.underlying t = some (.slice e)) (hi : P.info? e = some i) {b off n0 cap : Nat} {vs : List Value} {T : TypeId} (hh : w.heap[b]? = some (.cells ⟨vs⟩ T (0, 0)))
    {x : Value} {n : Nat} {news : List Value} (hs : Src P i.size tx x n news w) (hroom : n0 + n ≤ cap) (hfit : off + n0 * i.size + news.length ≤ vs.length) :
    (Builtin.append_ #[t, tx] ty #[.slice (some ⟨b, off, none⟩) n0 cap, x]).run P w = .ok (.slice (some ⟨b, off, none⟩) (n0 + n) cap)
      (w.setRow b (vs.take (off + n0 * i.size) ++ news ++ vs.drop (off + n0 * i.size + news.length)).toArray) := by
  have hst := run_storeCells_at P b (off + n0 * i.size) T news 0 ⟨vs⟩ w hh (by simpa using hfit) hs.one
  simp only [Nat.add_zero] at hst
  rcases hs.kind with ⟨e', hk⟩ | hk <;> simp [Builtin.append_, run_underlying ht, run_underlying hk, sizeOf, typeInfo, hi, hs.len, hroom, hs.cells, Addr.add_lit, hst]

/-- The cells of elements. -/
structure Els (P : Program) (w : World) (g : G) (E : TypeId) (l : List PV) (f : Nat → Value) (cs : List Value) : Prop where
  len : cs.length = l.length * P.cellsOf E
  rep : ∀ (i : Nat) (x : PV), l[i]? = some x → PRep P w g (tyOf P E) x (f i)
  cell : ∀ i, i < l.length → ∀ j, j < P.cellsOf E → cs[i * P.cellsOf E + j]? = (f i).cells[j]?

theorem idx_lt {i n s j : Nat} (hi : i < n) (hj : j < s) : i * s + j < n * s := by
  have h1 : (i + 1) * s ≤ n * s := Nat.mul_le_mul_right _ hi
  rw [Nat.add_mul, Nat.one_mul] at h1; omega

theorem idx_div {i s j : Nat} (hj : j < s) : (i * s + j) / s = i ∧ (i * s + j) % s = j := by
  refine ⟨?_, ?_⟩
  · rw [Nat.mul_comm, Nat.mul_add_div (by omega), Nat.div_eq_of_lt hj]; rfl
  · rw [Nat.mul_comm, Nat.mul_add_mod]; exact Nat.mod_eq_of_lt hj

/-- The cells that lie in memory. -/
def elCells (f : Nat → Value) (n s : Nat) : List Value := (List.range (n * s)).map fun k => (f (k / s)).cells.toList.getD (k % s) undef

theorem elCells_get {f : Nat → Value} {n s : Nat} (hs : ∀ i, i < n → (f i).cells.size = s) {i j : Nat} (hi : i < n) (hj : j < s) : (elCells f n s)[i * s + j]? = (f i).cells[j]? := by
  have hlt := idx_lt hi hj
  obtain ⟨h1, h2⟩ := idx_div (i := i) hj
  have := hs i hi
  simp only [elCells, List.getElem?_map, List.getElem?_range hlt, Option.map_some, h1, h2, List.getD, Array.getElem?_toList]
  rw [Array.getElem?_eq_getElem (by omega)]; rfl

theorem els_of {E : TypeId} {l : List PV} {f : Nat → Value} (hE : okElem P E = true) (hrep : ∀ (i : Nat) (x : PV), l[i]? = some x → PRep P w g (tyOf P E) x (f i)) :
    Els P w g E l f (elCells f l.length (P.cellsOf E)) ∧ (∀ u ∈ elCells f l.length (P.cellsOf E), u.oneCell' = true) ∧ ∀ i, i < l.length → (f i).cells.size = P.cellsOf E := by
  simp only [okElem, Bool.and_eq_true] at hE
  obtain ⟨c1, c2, _⟩ := hE
  have c1 := Nat.eq_of_beq_eq_true c1
  have hsz : ∀ i, i < l.length → (f i).cells.size = P.cellsOf E := by
    intro i hi
    rw [(cells_of_prep (hrep i _ (List.getElem?_eq_getElem hi)) c2).2.1, c1]
  refine ⟨⟨by simp [elCells], hrep, fun i hi j hj => elCells_get hsz hi hj⟩, fun u hu => ?_, hsz⟩
  obtain ⟨k, hk, rfl⟩ := List.mem_map.1 hu
  simp only [List.mem_range] at hk
  have hs0 : 0 < P.cellsOf E := by
    rcases Nat.eq_zero_or_pos (P.cellsOf E) with h0 | h0
    · rw [h0] at hk; simp at hk
    · exact h0
  have hd : k / P.cellsOf E < l.length := by rw [Nat.div_lt_iff_lt_mul hs0]; exact hk
  have hm : k % P.cellsOf E < (f (k / P.cellsOf E)).cells.size := by rw [hsz _ hd]; exact Nat.mod_lt _ hs0
  refine cells_one (hrep _ _ (List.getElem?_eq_getElem hd)) c2 _ ?_
  simp only [List.getD, Array.getElem?_toList, Array.getElem?_eq_getElem hm, Option.getD_some]
  exact Array.mem_toList_iff.2 (Array.getElem_mem hm)

theorem srcList_sound (h : Good P N st a hv w g) {E U : TypeId} {y : Operand} {ys : List PV} (hE : okElem P E = true) (hok : tmpOk N y = true) (hs : srcList P st E U y = some ys) :
    ∃ news f, Src P (P.cellsOf E) U (a.eval y) ys.length news w ∧ Els P w g E ys f news := by
  unfold srcList at hs
  split at hs
  · rename_i hU
    split at hs
    · rename_i v hT hv'
      cases hs
      obtain ⟨s, rfl, hs⟩ := (hU ▸ h.rd hok hv').str_inv
      have hE' := hE
      simp only [okElem, Bool.and_eq_true] at hE'
      have hc1 : P.cellsOf E = 1 := by
        rw [Nat.eq_of_beq_eq_true hE'.1, cellTys_scalar (by rw [hT]; rfl)]; rfl
      refine ⟨byteCells s, fun i => (byteCells s).getD i undef, ?_, ⟨?_, fun i x hx => ?_, fun i hi j hj => ?_⟩⟩
      · rw [hs, hc1]
        have := Src.ofString (P := P) w (tyOf_str hU) s
        simp only [PV.toStr, List.length_map, Array.length_toList]
        exact this
      · rw [byteCells_length, hc1]; simp only [PV.toStr, List.length_map, Array.length_toList]; simp only [Nat.mul_one]; rfl
      · rw [hT]
        simp only [PV.toStr, List.getElem?_map, Option.map_eq_some_iff] at hx
        obtain ⟨b, hb, rfl⟩ := hx
        simp only [List.getD, byteCells, List.getElem?_map, hb, Option.map_some, Option.getD_some]
        exact .int _ _
      · have hj0 : j = 0 := by omega
        subst hj0
        simp only [PV.toStr, List.length_map, Array.length_toList] at hi
        simp only [hc1, Nat.mul_one, Nat.add_zero, List.getD, byteCells, List.getElem?_map, List.getElem?_eq_getElem (show i < s.data.toList.length by simpa using hi), Option.map_some, Option.getD_some]
        rfl
    · cases hs
  · rename_i E' hU
    cases he : Nat.beq E E' with
    | false => simp [he] at hs
    | true =>
      simp only [he, cond_true] at hs
      have he := Nat.eq_of_beq_eq_true he
      subst he
      rcases rdList_sound h hok hs with ⟨rfl, ad, hv'⟩ | ⟨b, off, cap, f, hv', hrep, hc⟩
      · exact ⟨[], fun _ => undef, by
          rw [hv']
          cases ad with
          | none => exact Src.ofNil w (tyOf_sl hU) 0
          | some a0 => exact Src.ofSlice w (tyOf_sl hU) a0 0 0 [] (by simp) (fun j u hj => by simp at hj) (fun u hu => by cases hu), ⟨by simp, fun i x hx => by simp at hx, fun i hi => by simp at hi⟩⟩
      · obtain ⟨e1, e2, e3⟩ := els_of (w := w) (g := g) hE hrep
        refine ⟨_, f, ?_, e1⟩
        rw [hv']
        refine Src.ofSlice w (tyOf_sl hU) _ _ _ _ e1.len (fun k u hk => ?_) e2
        have hkl := (List.getElem?_eq_some_iff.1 hk).1
        rw [e1.len] at hkl
        have hs0 : 0 < P.cellsOf E := by
          rcases Nat.eq_zero_or_pos (P.cellsOf E) with h0 | h0
          · rw [h0] at hkl; simp at hkl
          · exact h0
        have hd : k / P.cellsOf E < ys.length := by rw [Nat.div_lt_iff_lt_mul hs0]; exact hkl
        have hm := Nat.mod_lt k hs0
        have hk' : k = k / P.cellsOf E * P.cellsOf E + k % P.cellsOf E := by rw [Nat.mul_comm]; exact (Nat.div_add_mod _ _).symm
        have := hc _ hd _ hm
        have hk2 := e1.cell _ hd _ hm
        rw [← hk', hk] at hk2
        rw [← hk2] at this
        rw [← this, Addr.add_lit]
        congr 2
        omega
  · cases hs

/-- Elements one behind the other. -/
theorem Els.append {E : TypeId} {l m : List PV} {f h : Nat → Value} {cs ds : List Value} (x : Els P w g E l f cs) (y : Els P w g E m h ds) : Els P w g E (l ++ m) (fun i => if i < l.length then f i else h (i - l.length)) (cs ++ ds) := by
  refine ⟨by rw [List.length_append, List.length_append, x.len, y.len, Nat.add_mul], fun i v hi => ?_, fun i hi j hj => ?_⟩
  · by_cases hl : i < l.length
    · rw [List.getElem?_append_left hl] at hi
      simp only [hl, if_true]; exact x.rep i v hi
    · rw [List.getElem?_append_right (by omega)] at hi
      simp only [hl, if_false]; exact y.rep _ v hi
  · by_cases hl : i < l.length
    · simp only [hl, if_true]
      rw [List.getElem?_append_left (by rw [x.len]; exact idx_lt hl hj)]
      exact x.cell i hl j hj
    · simp only [hl, if_false]
      simp only [List.length_append] at hi
      have hle : l.length * P.cellsOf E ≤ i * P.cellsOf E := Nat.mul_le_mul_right _ (by omega)
      rw [List.getElem?_append_right (by rw [x.len]; omega), x.len]
      have : i * P.cellsOf E + j - l.length * P.cellsOf E = (i - l.length) * P.cellsOf E + j := by rw [Nat.sub_mul]; omega
      rw [this]
      exact y.cell _ (by omega) j hj

theorem Els.ext {E : TypeId} {l : List PV} {f : Nat → Value} {cs : List Value} (x : Els P w g E l f cs) (hs : w.heap.size ≤ w'.heap.size) (hf : ∀ b, b < w.heap.size → g.tag b = .free → g'.tag b = .free ∧ w'.heap[b]? = w.heap[b]?) : Els P w' g' E l f cs :=
  ⟨x.len, fun i v hi => (x.rep i v hi).ext hs hf, x.cell⟩

/-- What is appended to: nothing, or an array that nobody else holds. -/
def Base (P : Program) (w : World) (g : G) (st : St) (E : TypeId) (l : List PV) (v : Value) : Prop :=
  (l = [] ∧ v = .slice none 0 0) ∨ ∃ (b off cap : Nat) (vs : List Value) (f : Nat → Value) (T : TypeId) (s : Nat) (p : List Nat), v = .slice (some ⟨b, off, none⟩) l.length cap ∧ w.heap[b]? = some (.cells ⟨vs⟩ T (0, 0)) ∧
    g.tag b = .own s p ∧ obj st s p = .dead ∧ l.length ≤ cap ∧ off + cap * P.cellsOf E ≤ vs.length ∧ (∀ (i : Nat) (x : PV), l[i]? = some x → PRep P w g (tyOf P E) x (f i)) ∧
    ∀ i, i < l.length → ∀ j, j < P.cellsOf E → vs[off + i * P.cellsOf E + j]? = (f i).cells[j]?

/-- A new block of slot d. -/
theorem good_new (h : Good P N st a hv w g) {d : Nat} (hd : d < N) {ob : Obj} {w0 : World} (hw0 : w0.heap = w.heap) (hos : w0.os = w.os) (htp : w0.tape = w.tape) (hout : w0.output = w.output) {x : AO} {v : Value}
    (hx : ORep P (w0.alloc ob) (g.newAt w.heap.size (some d) fun _ => v) d [] x) :
    Good P N (put d (.o x) st) (a.put (some d) v) hv (w0.alloc ob) (g.newAt w.heap.size (some d) fun _ => v) ∧ Fr w g (w0.alloc ob) (g.newAt w.heap.size (some d) fun _ => v) := by
  have hsz : (w0.alloc ob).heap.size = w.heap.size + 1 := by simp [hw0]
  have hold : ∀ b, b < w.heap.size → (w0.alloc ob).heap[b]? = w.heap[b]? := by
    intro b hb; rw [heap_alloc_old w0 ob b (by rw [hw0]; exact hb), hw0]
  have hf : ∀ b, b < w.heap.size → g.tag b = .free → (g.newAt w.heap.size (some d) fun _ => v).tag b = .free ∧ (w0.alloc ob).heap[b]? = w.heap[b]? :=
    fun b hb ht => ⟨by simp [G.newAt, Nat.ne_of_lt hb, ht], hold b hb⟩
  have hfr : ∀ b, (w0.alloc ob).heap.size ≤ b → (g.newAt w.heap.size (some d) fun _ => v).tag b = .free := by
    intro b hb
    rw [hsz] at hb
    simp only [G.newAt]
    rw [if_neg (by omega)]
    exact h.inv.fresh b (by omega)
  refine ⟨good_fresh h hd (by omega) hf hfr (fun t q htd _ => by simp [G.newAt, G.setVal, Ne.symm htd]) (fun b t q hb ht _ _ => ⟨by simp [G.newAt, Nat.ne_of_lt hb, ht], hold b hb⟩) hx (fun _ => by simp [G.newAt, G.setVal]), ?_⟩
  refine ⟨hos, htp, hout, by omega, hf, fun b hb ht => ⟨by simp [G.newAt, Nat.ne_of_lt hb, ht], hold b hb⟩, fun b hb => ?_, hfr⟩
  simp only [G.newAt] at hb
  split at hb
  · cases hb
  · refine ⟨hb, ?_⟩
    rcases Nat.lt_or_ge b w.heap.size with h' | h'
    · exact h'
    · rw [h.inv.fresh b h'] at hb; cases hb

theorem append_done (h : Good P N st a hv w g) {d : Nat} (hd : o.dst = some d) (hdN : d < N) {E T U ty : TypeId} (hT : P.underlying T = some (.slice E)) (hE : okElem P E = true) {l ys : List PV} {bv xv : Value} (hb : Base P w g st E l bv)
    {news : List Value} {h2 : Nat → Value} (hsrc : Src P (P.cellsOf E) U xv ys.length news w) (hels : Els P w g E ys h2 news) (hroom : (l.length + ys.length) * P.bytesOf E ≤ room)
    (hex : ∀ v w', (Builtin.append_ #[T, U] ty #[bv, xv]).run P w = .ok v w' → (execOp a.eval o).run P w = .ok (.value v) w')
    (hk : K (put d (.o (.arr E (l ++ ys))) st) = some r) (hpost : ThenL P N hv w g K r next) : o.wp P a w next Q := by
  have hE' := hE
  simp only [okElem, Bool.and_eq_true] at hE'
  obtain ⟨c1, c2, c3, c4, c5⟩ := hE'
  have c3 := of_decide_eq_true c3
  have c5 := of_decide_eq_true c5
  unfold zeroOk at c4
  split at c4
  · rename_i i hi
    split at c4
    · rename_i z hz
      have hzo := Nat.eq_of_beq_eq_true c4
      have hsz : P.cellsOf E = i.size := by simp [Program.cellsOf, hi]
      have hby : P.bytesOf E = i.bytes := by simp [Program.bytesOf, hi]
      rw [hby] at hroom c5
      have hroom' : (l.length + ys.length) * i.bytes ≤ 140737488355328 := hroom
      have hlen63 : l.length + ys.length ≤ 140737488355328 := by
        have : (l.length + ys.length) * 1 ≤ (l.length + ys.length) * i.bytes := Nat.mul_le_mul_left _ c5
        omega
      have hsrc' := hsrc
      rw [hsz] at hsrc'
      -- a new block
      have grow : ∀ (base : Option Addr) (cap : Nat) (olds : List Value) (f : Nat → Value), bv = .slice base l.length cap → cap < l.length + ys.length → Els P w g E l f olds →
          (Builtin.firstCells i.size l.length (.slice base l.length cap)).run P w.drew = .ok olds.toArray w.drew → o.wp P a w next Q := by
        intro base cap olds f hbv hlt hold hfirst
        have hrun := run_append_grow_src (P := P) w T U ty E i z hT hi hz base l.length cap olds hfirst xv ys.length news hsrc' hlt (by omega) (growslice_fits hlt hroom')
        rw [← hbv] at hrun
        have hge := grownCap_ge w (l.length + ys.length) cap E
        unfold Oper.wp
        rw [hex _ _ hrun]
        show next (a.put o.dst _) _
        rw [hd]
        have hall := hold.append hels
        obtain ⟨g1, f1⟩ := good_new h hdN (ob := .cells ⟨(olds ++ news) ++ (Builtin.zeroCells z.cells (grownCap w (l.length + ys.length) cap E - (l.length + ys.length))).toList⟩ E) (w0 := w.drew) rfl rfl rfl rfl
          (x := .arr E (l ++ ys)) (v := .slice (some ⟨w.heap.size, 0, none⟩) (l.length + ys.length) (grownCap w (l.length + ys.length) cap E)) (by
            refine .arr [] E _ w.heap.size 0 (grownCap w (l.length + ys.length) cap E) _ (fun i => if i < l.length then f i else h2 (i - l.length)) E (by simp [G.newAt, G.setVal]) (heap_alloc_new w.drew _) (by simp [G.newAt]) (by simpa using hge) ?_ (fun k y hy => ?_) (fun k hkl j hj => ?_)
            · have hzl : (Builtin.zeroCells z.cells (grownCap w (l.length + ys.length) cap E - (l.length + ys.length))).toList.length = (grownCap w (l.length + ys.length) cap E - (l.length + ys.length)) * P.cellsOf E := by
                simp only [Array.length_toList, size_zeroCells, hzo, hsz]
              rw [List.length_append, hall.len, hzl, List.length_append, ← Nat.add_mul, Nat.zero_add]
              exact Nat.mul_le_mul_right _ (by omega)
            · exact (hall.rep k y hy).ext (by simp) (fun b hb ht => ⟨by simp [G.newAt, Nat.ne_of_lt hb, ht], heap_alloc_old w.drew _ b hb⟩)
            · rw [Nat.zero_add, List.getElem?_append_left (by rw [hall.len]; exact idx_lt hkl hj)]
              exact hall.cell k hkl j hj)
        have harr : (olds ++ news).toArray ++ Builtin.zeroCells z.cells (grownCap w (l.length + ys.length) cap E - (l.length + ys.length)) = ⟨(olds ++ news) ++ (Builtin.zeroCells z.cells (grownCap w (l.length + ys.length) cap E - (l.length + ys.length))).toList⟩ := by
          apply Array.ext'; simp
        rw [harr]
        exact hpost _ _ _ _ g1 f1 hk
      rcases hb with ⟨rfl, hbv⟩ | ⟨b, off, cap, vs, f, T', s, p, hbv, hh, htag, hdead, hcap, hfit, hrep, hcell⟩
      · by_cases hy : ys.length = 0
        · have hys : ys = [] := List.eq_nil_of_length_eq_zero hy
          subst hys
          have hn : news = [] := List.eq_nil_of_length_eq_zero (by rw [hels.len]; simp)
          subst hn
          have hrun := run_append_nothing_lem (P := P) w T U ty E i hT hi xv hsrc'
          rw [← hbv] at hrun
          unfold Oper.wp
          rw [hex _ _ hrun]
          show next (a.put o.dst _) _
          rw [hd]
          refine hpost _ _ w (g.setVal (some d) fun _ => bv) (h.put hdN (qfr_setVal h.inv.fresh (some d) _) (.o _ _ (fun _ => (G.setVal_self g d (fun _ => bv) []).symm) (.narr [] E (by rw [G.setVal_self]; exact hbv)))) (qfr_setVal h.inv.fresh (some d) _).fr hk
        · exact grow none 0 [] (fun _ => undef) hbv (by simp; omega) ⟨by simp, fun _ _ hx => by simp at hx, fun _ hx => by simp at hx⟩ (run_firstCells_none w.drew i.size 0 0 0)
      · by_cases hfits : l.length + ys.length ≤ cap
        · have hnl := hels.len
          have hmul : l.length * P.cellsOf E + ys.length * P.cellsOf E ≤ cap * P.cellsOf E := by rw [← Nat.add_mul]; exact Nat.mul_le_mul_right _ hfits
          have hrun := run_append_in (P := P) (w := w) T U ty E i hT hi (b := b) (off := off) (n0 := l.length) (cap := cap) hh hsrc' hfits (by rw [hnl, ← hsz]; omega)
          rw [← hbv] at hrun
          unfold Oper.wp
          rw [hex _ _ hrun]
          show next (a.put o.dst _) _
          rw [hd]
          have hbl : b < w.heap.size := by
            rcases Nat.lt_or_ge b w.heap.size with h' | h'
            · exact h'
            · rw [Array.getElem?_eq_none h'] at hh; cases hh
          have hne : ∀ c, g.tag c = .free → c ≠ b := by rintro c hc rfl; rw [htag] at hc; cases hc
          have hneo : ∀ c, g.tag c = .out → c ≠ b := by rintro c hc rfl; rw [htag] at hc; cases hc
          have hmid := cells_mid vs news (off + l.length * i.size) (by rw [hnl, ← hsz]; omega)
          generalize hrow : (vs.take (off + l.length * i.size) ++ news ++ vs.drop (off + l.length * i.size + news.length)) = row at hmid ⊢
          obtain ⟨hm1, hm2, hm3⟩ := hmid
          have hpf : ∀ c, c < w.heap.size → g.tag c = .free → (if c = b then Tag.own d [] else g.tag c) = .free ∧ (w.setRow b row.toArray).heap[c]? = w.heap[c]? :=
            fun c _ hc => ⟨by rw [if_neg (hne c hc)]; exact hc, heap_setRow_other w b c _ (hne c hc)⟩
          have hfr : ∀ c, w.heap.size ≤ c → (if c = b then Tag.own d [] else g.tag c) = .free := fun c hc => by rw [if_neg (by omega)]; exact h.inv.fresh c hc
          have hsr := size_setRow w b row.toArray
          refine hpost _ _ _ { tag := fun c => if c = b then .own d [] else g.tag c, val := (g.setVal (some d) fun _ => .slice (some ⟨b, off, none⟩) (l.length + ys.length) cap).val }
            (good_fresh h hdN (by omega) hpf (fun c hc => hfr c (by omega)) (fun t q htd _ => by simp [G.setVal, Ne.symm htd]) (fun c t q hc ht htd hl => ?_) ?_ (fun _ => by simp [G.setVal])) ?_ hk
          · have : c ≠ b := by
              rintro rfl
              rw [htag] at ht; cases ht
              exact hl hdead
            exact ⟨by show (if c = b then Tag.own d [] else g.tag c) = _; rw [if_neg this]; exact ht, heap_setRow_other w b c _ this⟩
          · refine .arr [] E (l ++ ys) b off cap row (fun k => if k < l.length then f k else h2 (k - l.length)) T' (by simp [G.setVal]) (setRow_heap w b ⟨vs⟩ _ T' (0, 0) hh) (by simp) (by simpa using hfits) (by omega) (fun k y hy => ?_) (fun k hkl j hj => ?_)
            · by_cases hl : k < l.length
              · rw [List.getElem?_append_left hl] at hy
                simp only [hl, if_true]; exact (hrep k y hy).ext (by omega) hpf
              · rw [List.getElem?_append_right (by omega)] at hy
                simp only [hl, if_false]; exact (hels.rep _ y hy).ext (by omega) hpf
            · by_cases hl : k < l.length
              · simp only [hl, if_true]
                have := idx_lt hl hj
                rw [hm2 _ (by rw [← hsz]; omega)]
                exact hcell k hl j hj
              · simp only [hl, if_false]
                simp only [List.length_append] at hkl
                have hle : l.length * P.cellsOf E ≤ k * P.cellsOf E := Nat.mul_le_mul_right _ (by omega)
                have e : off + k * P.cellsOf E + j = off + l.length * i.size + ((k - l.length) * P.cellsOf E + j) := by rw [← hsz, Nat.sub_mul]; omega
                rw [e, hm3 _ (by rw [hnl]; exact idx_lt (by omega) hj)]
                exact hels.cell _ (by omega) j hj
          · refine ⟨rfl, rfl, rfl, by omega, hpf, fun c hc ht => ⟨by show (if c = b then Tag.own d [] else g.tag c) = _; rw [if_neg (hneo c ht)]; exact ht, heap_setRow_other w b c _ (hneo c ht)⟩, fun c hc => ?_, fun c hc => hfr c (by omega)⟩
            simp only at hc
            split at hc
            · cases hc
            · refine ⟨hc, ?_⟩
              rcases Nat.lt_or_ge c w.heap.size with h' | h'
              · exact h'
              · rw [h.inv.fresh c h'] at hc; cases hc
        · obtain ⟨e1, e2, e3⟩ := els_of (w := w) (g := g) hE hrep
          refine grow _ cap _ f hbv (by omega) e1 ?_
          refine run_firstCells_some w.drew i.size l.length _ _ _ _ (by rw [e1.len, hsz]) (fun k u hk => ?_)
          have hkl := (List.getElem?_eq_some_iff.1 hk).1
          rw [e1.len] at hkl
          have hd : k / P.cellsOf E < l.length := by rw [Nat.div_lt_iff_lt_mul c3]; exact hkl
          have hm := Nat.mod_lt k c3
          have hk' : k = k / P.cellsOf E * P.cellsOf E + k % P.cellsOf E := by rw [Nat.mul_comm]; exact (Nat.div_add_mod _ _).symm
          have h1 := hcell _ hd _ hm
          have h2 := e1.cell _ hd _ hm
          rw [← hk', hk] at h2
          rw [← h2] at h1
          have : w.drew.cell? (Addr.add ⟨b, off, none⟩ k) = w.cell? ⟨b, off + k, none⟩ := by rw [Addr.add_lit]; rfl
          rw [this, cell_of_row w b _ ⟨vs⟩ T' (0, 0) hh]
          have e : off + k = off + k / P.cellsOf E * P.cellsOf E + k % P.cellsOf E := by omega
          rw [e, ← h1]; simp
    · cases c4
  · cases c4

theorem evL_append (h : Good P N st a hv w g) {c : Call} (hop : o.op = .call c) (hb : c.callee = .builtin .append) (hok : opOk N o) (hdN : ∀ i, o.dst = some i → i < N) (hk : evL P call o st K = some r) (hpost : ThenL P N hv w g K r next) : o.wp P a w next Q := by
  have hmem : ∀ x ∈ c.args.toList, tmpOk N x = true := fun x hx => hok x (by
    simp only [hop, Op.operands, Call.operands, hb, Array.mem_append]; exact .inr (Array.mem_toList_iff.1 hx))
  cases hdd : o.dst with
  | none => simp [evL, hop, hb, hdd] at hk
  | some d =>
  have hdN := hdN d hdd
  simp only [evL, hop, hb, hdd] at hk
  split at hk
  · rename_i T x y U h0 h1 h2 h3
    have hxo := hmem x (Array.mem_toList_iff.2 (Array.mem_of_getElem? h1))
    have hyo := hmem y (Array.mem_toList_iff.2 (Array.mem_of_getElem? h2))
    have hex : ∀ v w', (Builtin.append_ #[T, U] o.type #[a.eval x, a.eval y]).run P w = .ok v w' → (execOp a.eval o).run P w = .ok (.value v) w' := by
      intro v w' hr
      have e : execOp a.eval o = (do let d ← resolve a.eval c o.type; invoke d.target d.args) := by simp only [execOp, hop]
      rw [e, Sem.run_bind]
      have : (resolve a.eval c o.type).run P w = .ok { target := .builtin .append c.argTypes o.type (c.args.map fun | .const _ => true | _ => false), args := c.args.map a.eval } w := by
        simp only [resolve, hb, Sem.run_pure]; rfl
      rw [this, Result.andThen_ok]
      have e2 := append_eq (ty := o.type) (A := c.argTypes) (vs := c.args.map a.eval) h0 h3 (by simp [h1] : (c.args.map a.eval)[0]? = some (a.eval x)) (by simp [h2] : (c.args.map a.eval)[1]? = some (a.eval y))
      simp only [invoke, builtin, e2, Sem.run_bind, hr, Result.andThen_ok, Sem.run_pure]
    split at hk
    · rename_i E hT
      obtain ⟨hE, hk⟩ := guardB_true hk
      split at hk
      · rename_i ys hys
        obtain ⟨news, f, hsrc, hels⟩ := srcList_sound h hE hyo hys
        split at hk
        · rename_i v
          split at hk
          · rename_i x' hx'
            obtain ⟨hr, hk⟩ := guardB_true hk
            have hr := of_decide_eq_true hr
            have hv := (constPV_sl hx').1
            exact append_done h hdd hdN (tyOf_sl hT) hE (l := []) (.inl ⟨rfl, hv⟩) hsrc hels (by simpa using hr) hex (by simpa using hk) hpost
          · cases hk
        · split at hk
          · rename_i s p hloc
            split at hk
            · rename_i E' l hob
              obtain ⟨hr, hk'⟩ := guardB_true hk
              simp only [Bool.and_eq_true] at hr
              have he := Nat.eq_of_beq_eq_true hr.1
              have hr2 := of_decide_eq_true hr.2
              subst he
              have hv := (locOf_sound h hxo hloc).1
              have hor := h.obj s p
              rw [hob] at hor
              obtain ⟨g1, hdead, _⟩ := good_drop h s p (by rw [hob]; simp)
              refine append_done g1 hdd hdN (tyOf_sl hT) hE (l := l) ?_ hsrc hels hr2 hex hk' hpost
              cases hor with
              | narr _ _ hv' => exact .inl ⟨rfl, by rw [hv]; exact hv'⟩
              | arr _ _ _ b off cap vs f T hv' hh ht hl hcap he hc =>
                exact .inr ⟨b, off, cap, vs, f, T, s, p, by rw [hv]; exact hv', hh, ht, by simpa using hdead [], hl, hcap, he, hc⟩
            · cases hk
          · cases hk
      · cases hk
    · cases hk
  · cases hk

end
end Go.V

namespace Go.V
section
variable {P : Program} {N : Nat} {st : St} {a : Act} {hv : List Value} {w w' : World} {g g' : G} {K : St → R} {r : List AO × List AO} {o : Oper} {next : Act → World → Prop} {Q : Exit → Act → World → Prop} {call : CallF}

/-- A block that nobody holds any more is slot d's. -/
def G.take (g : G) (b d : Nat) (v : Value) : G := { tag := fun c => if c = b then .own d [] else g.tag c, val := (g.setVal (some d) fun _ => v).val }

theorem good_take (h : Good P N st a hv w g) {d : Nat} (hdN : d < N) {b s : Nat} {p : List Nat} (htag : g.tag b = .own s p) (hdead : obj st s p = .dead) (hbl : b < w.heap.size) {x : AO} {v : Value}
    (hx : ORep P w (g.take b d v) d [] x) : Good P N (put d (.o x) st) (a.put (some d) v) hv w (g.take b d v) ∧ Fr w g w (g.take b d v) := by
  have hne : ∀ c, g.tag c = .free → c ≠ b := by rintro c hc rfl; rw [htag] at hc; cases hc
  have hneo : ∀ c, g.tag c = .out → c ≠ b := by rintro c hc rfl; rw [htag] at hc; cases hc
  have hpf : ∀ c, c < w.heap.size → g.tag c = .free → (g.take b d v).tag c = .free ∧ w.heap[c]? = w.heap[c]? :=
    fun c _ hc => ⟨by show (if c = b then Tag.own d [] else g.tag c) = .free; rw [if_neg (hne c hc)]; exact hc, rfl⟩
  have hfr : ∀ c, w.heap.size ≤ c → (g.take b d v).tag c = .free := fun c hc => by show (if c = b then Tag.own d [] else g.tag c) = .free; rw [if_neg (by omega)]; exact h.inv.fresh c hc
  refine ⟨good_fresh h hdN (Nat.le_refl _) hpf hfr (fun t q htd _ => by simp [G.take, G.setVal, Ne.symm htd]) (fun c t q hc ht htd hl => ?_) hx (fun _ => by simp [G.take, G.setVal]), ?_⟩
  · have : c ≠ b := by
      rintro rfl
      rw [htag] at ht; cases ht
      exact hl hdead
    exact ⟨by show (if c = b then Tag.own d [] else g.tag c) = _; rw [if_neg this]; exact ht, rfl⟩
  · refine ⟨rfl, rfl, rfl, Nat.le_refl _, hpf, fun c hc ht => ⟨by show (if c = b then Tag.own d [] else g.tag c) = _; rw [if_neg (hneo c ht)]; exact ht, rfl⟩, fun c hc => ?_, hfr⟩
    have hc' : (if c = b then Tag.own d [] else g.tag c) = .out := hc
    split at hc'
    · cases hc'
    · refine ⟨hc', ?_⟩
      rcases Nat.lt_or_ge c w.heap.size with h' | h'
      · exact h'
      · rw [h.inv.fresh c h'] at hc'; cases hc'

theorem evL_slice (h : Good P N st a hv w g) {T : TypeId} {x : Operand} {lo hi : Option Operand} (hop : o.op = .slice T x lo hi none) (hok : opOk N o) (hdN : ∀ i, o.dst = some i → i < N) (hk : evL P call o st K = some r) (hpost : ThenL P N hv w g K r next) : o.wp P a w next Q := by
  have hx : tmpOk N x = true := hok x (by simp [hop, Op.operands])
  have hlo : ∀ z, lo = some z → tmpOk N z = true := fun z hz => hok z (by simp [hop, Op.operands, hz])
  have hhi : ∀ z, hi = some z → tmpOk N z = true := fun z hz => hok z (by simp [hop, Op.operands, hz])
  simp only [evL, hop] at hk
  split at hk
  · rename_i d E s p hd hT hloc
    split at hk
    · rename_i E' l A hob hA
      have hA' := bound_sound h hlo (v := A) (d := 0) (by cases lo <;> exact hA)
      split at hk
      · rename_i H hH
        have hH' := bound_sound h hhi (v := H) (d := l.length) (by cases hi <;> exact hH)
        obtain ⟨hc, hk'⟩ := guardB_true hk
        simp only [Bool.and_eq_true] at hc
        obtain ⟨ce, ci, c0, c1, c2⟩ := hc
        have c0 : 0 ≤ A.toInt := of_decide_eq_true c0
        have c1 : A.toInt ≤ H.toInt := of_decide_eq_true c1
        have c2 : H.toInt ≤ l.length := of_decide_eq_true c2
        have ce := Nat.eq_of_beq_eq_true ce
        subst ce
        have hev := (locOf_sound h hx hloc).1
        have hdN' := hdN d hd
        have hu := tyOf_sl hT
        have hel : P.elem T = E := by simp [Program.elem, hu]
        have hrun : ∀ ad n cap, n = l.length → n ≤ cap → a.eval x = .slice ad n cap →
            (execOp a.eval o).run P w = .ok (.value (.slice (if cap = A.toInt.toNat then ad else ad.map (·.add (A.toInt.toNat * P.cellsOf E))) (H.toInt.toNat - A.toInt.toNat) (cap - A.toInt.toNat))) w := by
          intro ad n cap hn hcap hev
          have hb := run_sliceBounds (P := P) (w := w) (isSlice := true) (len := n) (cap := cap) hA' (by rw [hn]; exact hH') c0 c1 (by rw [hn]; exact c2) hcap
          have : (Instr.sliceAt T (.slice ad n cap) (lo.map a.eval) (hi.map a.eval) none).run P w = .ok (.slice (if cap = A.toInt.toNat then ad else ad.map (·.add (A.toInt.toNat * P.cellsOf E))) (H.toInt.toNat - A.toInt.toNat) (cap - A.toInt.toNat)) w := by
            rw [run_sliceAt_slice w T _ _ _ _ (by rw [hel]; exact hu)]
            simp only [Instr.slice, Sem.run_bind, run_underlying hu, Result.andThen_ok, hb, run_sizeOf_info ci, Sem.run_pure]
          simp only [execOp, hop, hev, Option.map_none, Sem.run_bind, this, Result.andThen_ok, Sem.run_pure]
        have hor := h.obj s p
        rw [hob] at hor
        obtain ⟨g1, hdead, _⟩ := good_drop h s p (by rw [hob]; simp)
        have hlen : ((l.take H.toInt.toNat).drop A.toInt.toNat).length = H.toInt.toNat - A.toInt.toNat := by simp; omega
        cases hor with
        | narr _ _ hv' =>
          simp only [List.length_nil] at c2
          have e1 : A.toInt.toNat = 0 := by omega
          have e2 : H.toInt.toNat = 0 := by omega
          have hr := hrun none 0 0 rfl (Nat.le_refl _) (by rw [hev, hv'])
          simp only [e1, e2, if_true, Nat.sub_self] at hr
          simp only [e1, e2] at hk'
          unfold Oper.wp
          rw [hr]
          show next (a.put o.dst _) _
          rw [hd]
          exact hpost _ _ w (g.setVal (some d) fun _ => .slice none 0 0) (g1.put hdN' (qfr_setVal h.inv.fresh (some d) _) (.o _ _ (fun _ => (G.setVal_self g d (fun _ => .slice none 0 0) []).symm) (.narr [] E (G.setVal_self _ _ _ _)))) (qfr_setVal h.inv.fresh (some d) _).fr hk'
        | arr _ _ _ b off cap vs f T' hv' hh ht hl hcap he hcell =>
          have hbl : b < w.heap.size := by
            rcases Nat.lt_or_ge b w.heap.size with h' | h'
            · exact h'
            · rw [Array.getElem?_eq_none h'] at hh; cases hh
          have hr := hrun _ _ cap rfl hl (by rw [hev, hv'])
          unfold Oper.wp
          rw [hr]
          show next (a.put o.dst _) _
          rw [hd]
          have hd0 : obj (kill s p (setObj st s p .dead)) s p = .dead := by simpa using hdead []
          have hnf : ∀ c, g.tag c = .free → c ≠ b := by rintro c hc rfl; rw [ht] at hc; cases hc
          have hpf : ∀ v, ∀ c, c < w.heap.size → g.tag c = .free → (g.take b d v).tag c = .free ∧ w.heap[c]? = w.heap[c]? :=
            fun v c _ hc => ⟨by show (if c = b then Tag.own d [] else g.tag c) = .free; rw [if_neg (hnf c hc)]; exact hc, rfl⟩
          obtain ⟨G1, F1⟩ := good_take g1 hdN' (x := .arr E ((l.take H.toInt.toNat).drop A.toInt.toNat)) (v := .slice (if cap = A.toInt.toNat then some ⟨b, off, none⟩ else (some (⟨b, off, none⟩ : Addr)).map (·.add (A.toInt.toNat * P.cellsOf E))) (H.toInt.toNat - A.toInt.toNat) (cap - A.toInt.toNat)) ht hd0 hbl (by
            by_cases hcl : cap = A.toInt.toNat
            · have hnil : (l.take H.toInt.toNat).drop A.toInt.toNat = [] := List.eq_nil_of_length_eq_zero (by omega)
              have h0 : H.toInt.toNat - A.toInt.toNat = 0 := by omega
              rw [if_pos hcl, hnil, h0]
              refine .arr [] E [] b off (cap - A.toInt.toNat) vs f T' (by simp [G.take, G.setVal]) hh (by simp [G.take]) (Nat.zero_le _) ?_ (fun i x hx => by simp at hx) (fun i hi => by simp at hi)
              have : (cap - A.toInt.toNat) * P.cellsOf E ≤ cap * P.cellsOf E := Nat.mul_le_mul_right _ (by omega)
              omega
            · rw [if_neg hcl]
              simp only [Option.map_some, addr_add]
              refine .arr [] E _ b (off + A.toInt.toNat * P.cellsOf E) (cap - A.toInt.toNat) vs (fun i => f (A.toInt.toNat + i)) T' (by simp only [G.take, G.setVal, if_true]; rw [hlen]) hh (by simp [G.take]) (by rw [hlen]; omega) ?_ (fun i x hx => ?_) (fun i hi j hj => ?_)
              · have : (cap - A.toInt.toNat) * P.cellsOf E + A.toInt.toNat * P.cellsOf E = cap * P.cellsOf E := by rw [← Nat.add_mul]; congr 1; omega
                omega
              · rw [List.getElem?_drop, List.getElem?_take] at hx
                split at hx
                · exact (he _ x hx).ext (Nat.le_refl _) (hpf _)
                · cases hx
              · rw [hlen] at hi
                rw [← hcell (A.toInt.toNat + i) (by omega) j hj, Nat.add_mul]
                congr 1; omega)
          exact hpost _ _ w _ G1 F1 hk'
      · cases hk
    · cases hk
  · cases hk

theorem good_freezeCells (s : Nat) (p : List Nat) : ∀ (n off : Nat) (st : St) (g : G), Good P N st a hv w g → ∃ g', Good P N (freezeCells s p off n st) a hv w g' ∧ Fr w g w g'
  | 0, _, st, g, h => ⟨g, h, Fr.refl w g h.inv.fresh⟩
  | n + 1, off, st, g, h => by
    simp only [freezeCells]
    split
    · rename_i E l hob
      obtain ⟨g1, h1, f1⟩ := good_freeze h hob
      obtain ⟨g2, h2, f2⟩ := good_freezeCells s p n (off + 1) _ g1 h1
      exact ⟨g2, h2, f1.trans f2⟩
    · exact good_freezeCells s p n (off + 1) st g h

theorem evL_load (hcall : CallOk P call) (h : Good P N st a hv w g) {T : TypeId} {addr : Operand} (hop : o.op = .load T addr) (hok : opOk N o) (hdN : ∀ i, o.dst = some i → i < N) (hk : evL P call o st K = some r) (hpost : ThenL P N hv w g K r next) : o.wp P a w next Q := by
  simp only [evL, hop] at hk
  split at hk
  · rename_i s p off hp
    obtain ⟨g1, h1, f1⟩ := good_freezeCells s p (cellTys P deep T).length off st g h
    exact evQ_sound hcall h1 hok hk (then_of_L h1 hdN fun st' a' w' g' hg hf hk => hpost st' a' w' g' hg (f1.trans hf) hk)
  · cases hk

theorem rooted_sub {s : Nat} {p q : List Nat} {v : AV} (h : v.rooted s p = false) : v.rooted s (p ++ q) = false := by
  cases v <;> simp only [AV.rooted, Bool.and_eq_false_iff] at h ⊢ <;> rcases h with h | h <;> first | exact .inl h | exact .inr (pre_trans h)

theorem evL_box (h : Good P N st a hv w g) {E : TypeId} {x : Operand} (hop : o.op = .box E x) (hok : opOk N o) (hdN : ∀ i, o.dst = some i → i < N) (hk : evL P call o st K = some r) (hpost : ThenL P N hv w g K r next) : o.wp P a w next Q := by
  have hx := hok x (by simp [hop, Op.operands])
  have hrun : (execOp a.eval o).run P w = .ok (.value (.pointer (some ⟨w.heap.size, 0, none⟩))) (w.alloc (.cells ⟨(a.eval x).cells.toList⟩ E)) := by
    simp only [execOp, hop, Sem.run_bind, Instr.box, newVar, newRow, run_newObj, Result.andThen_ok, Sem.run_pure]; rfl
  simp only [evL, hop] at hk
  split at hk
  · rename_i d i hd
    have hdN' := hdN d hd
    have hi : i < N := by simpa [tmpOk] using hx
    have key : ∀ z, get st i = .o z → z ≠ .dead → d ≠ i → (a.eval (.tmp i)).cells = #[a.eval (.tmp i)] → K (moveIn i d [] 0 z (put d (.o (.box E [.dead])) st)) = some r → o.wp P a w next Q := by
      intro z hz hzd hne hcs hk
      have hvi : a.eval (.tmp i) = g.val i [] := by
        have := h.slotAt hi hz
        cases this with
        | o _ _ hv0 _ => exact hv0 hzd
      rw [hcs] at hrun
      obtain ⟨G1, F1⟩ := good_new h hdN' (ob := .cells ⟨[a.eval (.tmp i)]⟩ E) (w0 := w) rfl rfl rfl rfl (x := .box E [.dead]) (v := .pointer (some ⟨w.heap.size, 0, none⟩)) (by
        refine .box [] E [.dead] w.heap.size [a.eval (.tmp i)] (by simp [G.newAt, G.setVal]) (heap_alloc_new w _) (by simp [G.newAt]) rfl (fun k y hy => ?_) (fun k y hy hd => ?_)
        · cases k with
          | zero => simp at hy; subst hy; exact .dead _
          | succ k => simp at hy
        · cases k with
          | zero => simp at hy; exact absurd hy.symm hd
          | succ k => simp at hy)
      have hlen := h.len
      have hgi : get (put d (.o (.box E [.dead])) st) i = .o z := by
        rw [get_put, if_neg (fun hh => hne hh.1.symm), hz]; rfl
      have hgd : obj (put d (.o (.box E [.dead])) st) d [] = .box E [.dead] := by
        have hlt : d < st.length := Nat.lt_of_lt_of_le hdN' (by rw [hlen]; exact Nat.le_add_right _ _)
        unfold obj; rw [get_put, if_pos ⟨rfl, hlt⟩]; rfl
      obtain ⟨g2, G2, F2⟩ := good_moveIn G1 (i := i) (s := d) (off := 0) (p := []) hgi hzd (Ne.symm hne) hgd rfl (fun b vs T hb hh => by
          have hb' : b = w.heap.size := by
            simp [G.newAt, G.setVal] at hb; exact hb.symm
          subst hb'
          have hnew := heap_alloc_new w (.cells ⟨[a.eval (.tmp i)]⟩ E)
          rw [hnew] at hh
          cases hh
          simp [G.newAt, G.setVal, hne, hvi]) (fun t => by
          rw [get_put]
          split
          · rfl
          · cases hr : (get st t).rooted d [] with
            | true => rfl
            | false => simpa using rooted_sub (q := [0]) hr)
      unfold Oper.wp
      rw [hrun]
      show next (a.put o.dst _) _
      rw [hd]
      exact hpost _ _ _ g2 G2 (F1.trans F2) hk
    split at hk
    · rename_i E' l hg
      obtain ⟨hc, hk'⟩ := guardB_true hk
      simp only [Bool.and_eq_true, Bool.not_eq_true', nbeq, decide_eq_false_iff_not] at hc
      refine key _ hg (by simp) hc.1 ?_ hk'
      have := h.slotAt hi hg
      cases this with
      | o _ _ hv0 hor =>
        rw [hv0 (by simp)]
        cases hor with
        | narr _ _ hv' => rw [hv']; rfl
        | arr _ _ _ b off cap vs f T' hv' => rw [hv']; rfl
    · rename_i E' cs hg
      obtain ⟨hc, hk'⟩ := guardB_true hk
      simp only [Bool.not_eq_true', nbeq, decide_eq_false_iff_not] at hc
      refine key _ hg (by simp) hc ?_ hk'
      have := h.slotAt hi hg
      cases this with
      | o _ _ hv0 hor =>
        rw [hv0 (by simp)]
        cases hor with
        | box _ _ _ b vs hv' => rw [hv']; rfl
    · cases hk
  · cases hk

end
end Go.V

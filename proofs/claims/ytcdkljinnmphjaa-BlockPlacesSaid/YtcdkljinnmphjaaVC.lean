/- The evaluator's soundness, third part: regions, loops, codes, results; at the end: what the evaluator tells of a call, the call does (evF_sound, evG_sound), for any program, hints and fuel. Conditions: those that CallOk names. -/
import Derived.Test.YtcdkljinnmphjaaVB
import Derived.Scope
namespace Go.V
section
variable {P : Program} {N : Nat} {st : St} {a : Act} {hv : List Value} {w w' : World} {g g' : G} {K : St → R} {r : List AO × List AO} {o : Oper} {next : Act → World → Prop} {Q : Exit → Act → World → Prop} {call : CallF}

theorem get_setObj_ne {s : Nat} {p : List Nat} {y : AO} {t : Nat} (h : t ≠ s) : get (setObj st s p y) t = get st t := by
  unfold setObj
  split
  · rw [get_set, if_neg (fun hh => h hh.1)]
  · rfl

theorem rooted_setObj {s : Nat} {p : List Nat} {y : AO} {t s' : Nat} {p' : List Nat} (h : (get st t).rooted s' p' = false) : (get (setObj st s p y) t).rooted s' p' = false := by
  unfold setObj
  split
  · rw [get_set]
    split
    · rfl
    · exact h
  · exact h

theorem obj_setObj_self {s : Nat} {p : List Nat} {y : AO} (h : obj st s p ≠ .dead) : obj (setObj st s p y) s p = y := by
  have hget : ∃ x, get st s = .o x := by
    unfold obj at h
    split at h
    · exact ⟨_, by assumption⟩
    · exact absurd rfl h
  obtain ⟨x, hx⟩ := hget
  have hsl := get_o_lt hx
  have hxp : x.at p = obj st s p := by unfold obj; rw [hx]
  have hst : setObj st s p y = st.set s (.o (AO.upd y x p)) := by unfold setObj; rw [hx]
  rw [hst]
  unfold obj
  rw [get_set, if_pos ⟨rfl, hsl⟩]
  have := upd_at_ext y p x [] (by rw [hxp]; exact h)
  simpa [AO.at] using this

theorem evL_storeMove (h : Good P N st a hv w g) {T : TypeId} {addr x : Operand} (hop : o.op = .store T addr x) (hok : opOk N o) (hd : o.dst = none) {s : Nat} {p : List Nat} {off : Nat} (hp : asPtr st addr = some (s, p, off)) {E : TypeId} {cs : List AO} (hob : obj st s p = .box E cs)
    (hsz : P.cellsOf T = 1) (hlt : off < cs.length) {i : Nat} {z : AO} (hz : get st i = .o z) (hzd : z ≠ .dead) (hne : s ≠ i) (hev : a.eval x = g.val i []) (hone : (a.eval x).cells = #[a.eval x] ∧ (a.eval x).oneCell' = true)
    (hk : K (moveIn i s p off z (setObj (killCells s p off 1 st) s p (.box E (setAOs cs off [.dead])))) = some r) (hpost : ThenL P N hv w g K r next) : o.wp P a w next Q := by
  obtain ⟨b, vs, hpe, hvv, hh, ht, hl, hc, hcv⟩ := asPtr_sound h (hok addr (by simp [hop, Op.operands])) hp hob
  obtain ⟨k1, k2, k3, _, k5⟩ := killCells_spec s p 1 off st h
  obtain ⟨g1, f1⟩ := store_cells k1 (s := s) (p := p) (E := E) (cs := cs) (by rw [k2]; exact hob) (off := off) hvv hh ht hl hc hcv (ys := [.dead]) (vals := [a.eval x]) rfl (by simp; omega)
    (fun k y v hy hv => by
      cases k with
      | zero => simp at hy; subst hy; exact .inl rfl
      | succ k => simp at hy) (fun t k hk1 hk2 => k3 t k hk1 (by simpa using hk2))
  have hrun := run_store_op hop hpe (run_storeVar (P := P) (T := T) (w := w) (b := b) (off := off) (v := a.eval x) (vs := vs) (E := E) (by rw [hone.1, hsz]; rfl) (.inl (by omega)) hh (by rw [hone.1]; simp; omega) (fun u hu => by rw [hone.1] at hu; simp at hu; rw [hu]; exact hone.2))
  rw [hone.1] at hrun
  have hobl : obj (killCells s p off 1 st) s p ≠ .dead := by rw [k2, hob]; simp
  have hcs : (setAOs cs off [.dead])[off]? = some .dead := by
    simp only [setAOs, List.getElem?_set, hlt]; simp
  obtain ⟨g2, G2, F2⟩ := good_moveIn g1 (i := i) (s := s) (off := off) (p := p) (z := z) (E := E) (cs := setAOs cs off [.dead]) (by rw [get_setObj_ne (Ne.symm hne)]; exact (k5 i z).2 hz) hzd (Ne.symm hne) (obj_setObj_self hobl) hcs (fun b' vs' T' hb hh' => by
      rw [G.cells_not _ _ _ _ _ _ _ (fun _ k hk => by simp at hk), hvv] at hb
      have hb' : b = b' := by simpa using hb
      subst hb'
      rw [setRow_heap w b ⟨vs⟩ _ E (0, 0) hh] at hh'
      have := Option.some.inj hh'
      have hvs : (vs.take off ++ [a.eval x] ++ vs.drop (off + [a.eval x].length)) = vs' := by injection this with h1 _ _; injection h1
      rw [← hvs, G.cells_not _ _ _ _ _ _ _ (fun hs => absurd hs (Ne.symm hne)), ← hev]
      rw [List.append_assoc, List.getElem?_append_right (by simp; omega)]
      have e : off - (vs.take off).length = 0 := by simp; omega
      rw [e]; rfl) (fun t => rooted_setObj (k3 t off (Nat.le_refl _) (by omega)))
  unfold Oper.wp
  rw [hrun]
  show next (a.put o.dst undef) _
  rw [put_none _ hd]
  exact hpost _ _ _ g2 G2 (f1.trans F2) hk

theorem owner_one {s : Nat} {x : AO} (h : ORep P w g s [] x) (hx : (∃ E cs, x = .box E cs) ∨ ∃ E l, x = .arr E l) : (g.val s []).cells = #[g.val s []] ∧ (g.val s []).oneCell' = true := by
  rcases hx with ⟨E, cs, rfl⟩ | ⟨E, l, rfl⟩
  · cases h with
    | box _ _ _ b vs hv' => rw [hv']; exact ⟨rfl, rfl⟩
  · cases h with
    | narr _ _ hv' => rw [hv']; exact ⟨rfl, rfl⟩
    | arr _ _ _ b off cap vs f T' hv' => rw [hv']; exact ⟨rfl, rfl⟩

theorem evL_store (h : Good P N st a hv w g) {T : TypeId} {addr x : Operand} (hop : o.op = .store T addr x) (hok : opOk N o) (hk : evL P call o st K = some r) (hpost : ThenL P N hv w g K r next) : o.wp P a w next Q := by
  have hx : tmpOk N x = true := hok x (by simp [hop, Op.operands])
  simp only [evL, hop] at hk
  split at hk
  · cases hk
  · rename_i hd
    split at hk
    · rename_i s p off hp
      split at hk
      · rename_i E cs hob
        cases hA : isAggTy (tyOf P T) with
        | true =>
          simp only [hA, cond_true] at hk
          split at hk
          · rename_i v hv'
            obtain ⟨hc, hk'⟩ := guardB_true hk
            simp only [Bool.and_eq_true] at hc
            have c1 := Nat.eq_of_beq_eq_true hc.1
            have c0 := of_decide_eq_true hc.2.1
            have c2 := of_decide_eq_true hc.2.2
            have hrep := h.rd hx hv'
            have hTT : (isAggTy (tyOf P T) || scalarTy (tyOf P T)) = true := by rw [hA]; rfl
            obtain ⟨e1, e2, e3⟩ := cells_of_prep hrep hTT
            obtain ⟨p1, p2⟩ := pvCells_get (cellTys P deep T) 0 v
            have hTs := isAggTy_st hA
            rw [hTs] at hrep
            obtain ⟨xs, vs, rfl, hvs, h1, h2, h3⟩ := hrep.st_inv
            refine evL_storeBox h hop hok hd hp hob (ys := pvCells (cellTys P deep T) 0 (.agg xs)) (by rw [e2, c1]) (.inl (by omega)) (by rw [p1, e2]) (by rw [p1]; exact c2) (cells_one (by rw [hTs]; exact hrep) hTT) (fun j y u hy hu => ?_) (by rw [p1]; exact hk') hpost
            have hj : j < (cellTys P deep T).length := by rw [← p1]; exact (List.getElem?_eq_some_iff.1 hy).1
            have ht := List.getElem?_eq_getElem hj
            rw [p2 j _ ht] at hy
            cases hy
            rw [hvs] at hu
            refine .inr (.inl ⟨_, _, rfl, h3 j _ _ _ ht ?_ (by simpa [Value.cells] using hu)⟩)
            rw [Nat.zero_add, cell_get, List.getElem?_eq_getElem (by omega)]; rfl
          · cases hk
        | false =>
          simp only [hA, cond_false] at hk
          obtain ⟨hc, hk'⟩ := guardB_true hk
          simp only [Bool.and_eq_true] at hc
          obtain ⟨hs, hc1, hc2⟩ := hc
          have hc1 := Nat.eq_of_beq_eq_true hc1
          have hc2 := of_decide_eq_true hc2
          split at hk'
          · rename_i v
            split at hk'
            · rename_i y hy
              have hcr : CellRep P w g y v ∧ v.cells = #[v] ∧ v.oneCell' = true := by
                unfold constAV at hy
                split at hy
                · rename_i E' hE'
                  split at hy
                  · rename_i x' hx'
                    cases hy
                    obtain ⟨rfl, rfl⟩ := constPV_sl hx'
                    exact ⟨.inr (.inr ⟨E', rfl, rfl⟩), rfl, rfl⟩
                  · cases hy
                · split at hy
                  · rename_i x' hx'
                    cases hy
                    have := constAt_sound (P := P) (w := w) (g := g) hx'
                    exact ⟨.inr (.inl ⟨_, _, rfl, this⟩), scalar_cells hs this⟩
                  · cases hy
              obtain ⟨r1, r2, r3⟩ := hcr
              refine evL_storeBox h hop hok hd hp hob (ys := [y]) (by show v.cells.size = _; rw [r2, hc1]; rfl) (.inl (by omega)) (by show _ = v.cells.size; rw [r2]; rfl) (by simp; omega) (fun u hu => ?_) (fun j y' u hy' hu => ?_) hk' hpost
              · have hu' : u ∈ v.cells.toList := hu
                rw [r2] at hu'; simp at hu'; rw [hu']; exact r3
              · have hu' : v.cells.toList[j]? = some u := hu
                rw [r2] at hu'
                cases j with
                | zero => simp at hy' hu'; subst hy' hu'; exact r1
                | succ j => simp at hy'
            · cases hk'
          · rename_i i
            have hi : i < N := by simpa [tmpOk] using hx
            split at hk'
            · rename_i v hv'
              have hrep := h.asPV hi hv'
              obtain ⟨r2, r3⟩ := scalar_cells hs hrep
              refine evL_storeBox h hop hok hd hp hob (ys := [.pv (tyOf P T) v]) (by rw [r2, hc1]; rfl) (.inl (by omega)) (by rw [r2]; rfl) (by simp; omega) (fun u hu => ?_) (fun j y' u hy' hu => ?_) hk' hpost
              · rw [r2] at hu; simp at hu; rw [hu]; exact r3
              · rw [r2] at hu
                cases j with
                | zero => simp at hy' hu; subst hy' hu; exact .inr (.inl ⟨_, _, rfl, hrep⟩)
                | succ j => simp at hy'
            · split at hk'
              · rename_i E' l hg
                obtain ⟨hc, hk2⟩ := guardB_true hk'
                simp only [Bool.and_eq_true, Bool.not_eq_true', nbeq, decide_eq_false_iff_not] at hc
                have hsl := h.slotAt hi hg
                cases hsl with
                | o _ _ hv0 hor =>
                  have he := hv0 (by simp)
                  exact evL_storeMove h hop hok hd hp hob hc1 hc2 hg (by simp) hc.1 he (by rw [he]; exact owner_one hor (.inr ⟨_, _, rfl⟩)) hk2 hpost
              · rename_i E' cs' hg
                obtain ⟨hc, hk2⟩ := guardB_true hk'
                simp only [Bool.not_eq_true', nbeq, decide_eq_false_iff_not] at hc
                have hsl := h.slotAt hi hg
                cases hsl with
                | o _ _ hv0 hor =>
                  have he := hv0 (by simp)
                  exact evL_storeMove h hop hok hd hp hob hc1 hc2 hg (by simp) hc he (by rw [he]; exact owner_one hor (.inl ⟨_, _, rfl⟩)) hk2 hpost
              · rename_i s' p' hg
                split at hk'
                · split at hk'
                  · rename_i E' l hobs
                    obtain ⟨hc, hk2⟩ := guardB_true hk'
                    simp only [Bool.and_eq_true, Bool.not_eq_true', nbeq, decide_eq_false_iff_not] at hc
                    have hsl := h.slotAt hi hg
                    cases hsl with
                    | al _ _ _ hv0 =>
                      have he := hv0 (by rw [hobs]; simp)
                      have hgs : get st s' = .o (.arr E' l) := by
                        unfold obj at hobs
                        split at hobs
                        · rename_i x' hx'; rw [hx']; simp only [AO.at] at hobs; rw [hobs]
                        · cases hobs
                      exact evL_storeMove h hop hok hd hp hob hc1 hc2 hgs (by simp) hc.1 he (by rw [he]; exact owner_one (h.owner hgs) (.inr ⟨_, _, rfl⟩)) hk2 hpost
                  · cases hk'
                · cases hk'
              · cases hk'
          · cases hk'
      · cases hk
    · split at hk
      · rename_i i
        split at hk
        · rename_i s p j off hg
          split at hk
          · rename_i E l v hob hv'
            cases hcond : (decide (0 < P.cellsOf T) && (Nat.beq off 0 && (Nat.beq T E && ((isAggTy (tyOf P T) || scalarTy (tyOf P T)) && Nat.beq (P.cellsOf T) (cellTys P deep T).length)))) with
            | true =>
              simp only [hcond, cond_true] at hk
              simp only [Bool.and_eq_true] at hcond
              obtain ⟨c1, c2, c3, c4, c5⟩ := hcond
              exact evL_storeEl h hop hok hd hg hob hv' (of_decide_eq_true c1) c4 (Nat.eq_of_beq_eq_true c5) (.inl ⟨Nat.eq_of_beq_eq_true c2, Nat.eq_of_beq_eq_true c3, rfl⟩) hk hpost
            | false =>
              simp only [hcond, cond_false] at hk
              obtain ⟨hc, hk'⟩ := guardB_true hk
              simp only [Bool.and_eq_true] at hc
              obtain ⟨c1, c2, c3, c4, c5, c6⟩ := hc
              exact evL_storeEl h hop hok hd hg hob hv' (of_decide_eq_true c1) c4 (Nat.eq_of_beq_eq_true c5) (.inr ⟨c2, Nat.eq_of_beq_eq_true c3, c6, rfl⟩) hk' hpost
          · cases hk
        · cases hk
      · cases hk

end
end Go.V

namespace Go.V
section
variable {P : Program} {N : Nat} {st st' : St} {a : Act} {hv : List Value} {w w' : World} {g g' : G} {K : St → R} {r : List AO × List AO} {o : Oper} {next : Act → World → Prop} {Q : Exit → Act → World → Prop} {call : CallF}

theorem get_killBelow (s : Nat) (p : List Nat) (st : St) (r : Nat) : get (killBelow s p st) r = bif (get st r).below s p then .dead else get st r := by
  unfold killBelow; rw [get_map _ (by simp [AV.below])]

theorem length_setObj (s : Nat) (p : List Nat) (y : AO) (st : St) : (setObj st s p y).length = st.length := by
  unfold setObj; split <;> simp

theorem length_giveBack : ∀ (ls : List (Nat × List Nat)) (ys : List AO) (st : St), (giveBack ls ys st).length = st.length
  | [], _, st => by simp [giveBack]
  | _ :: _, [], st => by simp [giveBack]
  | (s, p) :: ls, y :: ys, st => by
    simp only [giveBack]
    rw [length_giveBack ls ys]
    simp [killBelow, length_setObj]

theorem apart_uniq : ∀ {ls : List (Nat × List Nat)}, apartLocs ls = true → ∀ {k k' s : Nat} {p p' : List Nat}, ls[k]? = some (s, p) → ls[k']? = some (s, p') → k = k'
  | [], _, k, k', s, p, p', h, _ => by simp at h
  | (s0, p0) :: ls, ha, k, k', s, p, p', h, h' => by
    simp only [apartLocs, Bool.and_eq_true, List.all_eq_true, Bool.not_eq_true', nbeq, decide_eq_false_iff_not] at ha
    obtain ⟨h1, h2⟩ := ha
    cases k with
    | zero =>
      cases k' with
      | zero => rfl
      | succ k' =>
        simp at h h'
        exact absurd h.1 (h1 (s, p') (List.mem_of_getElem? h'))
    | succ k =>
      cases k' with
      | zero =>
        simp at h h'
        exact absurd h'.1 (h1 (s, p) (List.mem_of_getElem? h))
      | succ k' =>
        simp at h h'
        rw [apart_uniq h2 h h']

theorem giveBack_spec : ∀ {ls : List (Nat × List Nat)} {back : List AO} {st : St}, apartLocs ls = true → back.length = ls.length → (∀ (k s : Nat) (p : List Nat), ls[k]? = some (s, p) → ∃ x, get st s = .o x) → ∀ t,
    (∃ (k : Nat) (p : List Nat) (y x : AO), ls[k]? = some (t, p) ∧ back[k]? = some y ∧ get st t = .o x ∧ get (giveBack ls back st) t = .o (AO.upd y x p)) ∨
    ((∀ (k : Nat) (p : List Nat), ls[k]? ≠ some (t, p)) ∧ ((get (giveBack ls back st) t = get st t ∧ ∀ (k s : Nat) (p : List Nat), ls[k]? = some (s, p) → (get st t).below s p = false) ∨ (get (giveBack ls back st) t = .dead ∧ ∀ x, get st t ≠ .o x)))
  | [], back, st, _, _, _, t => .inr ⟨fun k p h => by simp at h, .inl ⟨by simp [giveBack], fun k s p h => by simp at h⟩⟩
  | (s0, p0) :: ls, [], st, _, hl, _, t => by simp at hl
  | (s0, p0) :: ls, y :: ys, st, ha, hl, hx, t => by
    have ha' := ha
    simp only [apartLocs, Bool.and_eq_true, List.all_eq_true, Bool.not_eq_true', nbeq, decide_eq_false_iff_not] at ha
    obtain ⟨h1, h2⟩ := ha
    obtain ⟨x0, hx0⟩ := hx 0 s0 p0 rfl
    have hsl := get_o_lt hx0
    have hset : setObj st s0 p0 y = st.set s0 (.o (AO.upd y x0 p0)) := by unfold setObj; rw [hx0]
    have hg0 : get (killBelow s0 p0 (setObj st s0 p0 y)) s0 = .o (AO.upd y x0 p0) := by
      rw [get_killBelow, hset, get_set, if_pos ⟨rfl, hsl⟩]; rfl
    have hg : ∀ r, r ≠ s0 → get (killBelow s0 p0 (setObj st s0 p0 y)) r = bif (get st r).below s0 p0 then .dead else get st r := by
      intro r hr; rw [get_killBelow, get_setObj_ne hr]
    have ih := giveBack_spec (ls := ls) (back := ys) (st := killBelow s0 p0 (setObj st s0 p0 y)) h2 (by simpa using hl) (fun k s p hk => by
      have hne : s ≠ s0 := fun he => h1 (s, p) (List.mem_of_getElem? hk) he.symm
      obtain ⟨x, hx⟩ := hx (k + 1) s p (by simpa using hk)
      exact ⟨x, by rw [hg s hne, hx]; rfl⟩) t
    simp only [giveBack]
    by_cases hts : t = s0
    · subst hts
      rcases ih with ⟨k, p, _, _, hk, _⟩ | ⟨hno, ⟨hget, _⟩ | ⟨_, hno'⟩⟩
      · exact absurd rfl (h1 (t, p) (List.mem_of_getElem? hk))
      · exact .inl ⟨0, p0, y, x0, rfl, rfl, hx0, by rw [hget, hg0]⟩
      · exact absurd hg0 (hno' _)
    · rcases ih with ⟨k, p, y', x, hk, hy, hgx, hgr⟩ | ⟨hno, hcase⟩
      · refine .inl ⟨k + 1, p, y', x, by simpa using hk, by simpa using hy, ?_, hgr⟩
        rw [hg t hts] at hgx
        cases hb : (get st t).below s0 p0 with
        | true => rw [hb] at hgx; cases hgx
        | false => rw [hb] at hgx; exact hgx
      · refine .inr ⟨fun k p hk => ?_, ?_⟩
        · cases k with
          | zero => simp at hk; exact hts hk.1.symm
          | succ k => exact hno k p (by simpa using hk)
        · rcases hcase with ⟨hget, hbel⟩ | ⟨hd, hno'⟩
          · rw [hg t hts] at hget hbel
            cases hb : (get st t).below s0 p0 with
            | true =>
              rw [hb] at hget
              refine .inr ⟨hget, fun x hx => ?_⟩
              rw [hx] at hb; cases hb
            | false =>
              rw [hb] at hget hbel
              refine .inl ⟨hget, fun k s p hk => ?_⟩
              cases k with
              | zero => simp at hk; rw [← hk.1, ← hk.2]; exact hb
              | succ k => exact hbel k s p (by simpa using hk)
          · refine .inr ⟨hd, fun x hx => ?_⟩
            refine hno' x ?_
            rw [hg t hts, hx]; rfl

theorem pre_antisymm {p q : List Nat} (h1 : pre p q = true) (h2 : pre q p = true) : q = p := by
  obtain ⟨r, rfl⟩ := (pre_iff _ _).1 h1
  obtain ⟨z, hz⟩ := (pre_iff _ _).1 h2
  have := congrArg List.length hz
  simp only [List.length_append] at this
  have : r = [] := List.eq_nil_of_length_eq_zero (by omega)
  simp [this]

/-- What was lent comes back; the world has moved on. -/
theorem good_giveBack (h : Good P N st a hv w g) {ls : List (Nat × List Nat)} {back : List AO} (hap : apartLocs ls = true) (hlen : back.length = ls.length)
    (hbox : ∀ (k s : Nat) (p : List Nat), ls[k]? = some (s, p) → ∃ E cs, obj st s p = .box E cs) (hok : ∀ y ∈ back, okBack y = true)
    (hs : w.heap.size ≤ w'.heap.size) (hf : ∀ b, b < w.heap.size → g.tag b = .free → g'.tag b = .free ∧ w'.heap[b]? = w.heap[b]?) (hfr : ∀ b, w'.heap.size ≤ b → g'.tag b = .free)
    (hval : ∀ t q x, get st t = .o x → (∀ (k : Nat) (p : List Nat), ls[k]? = some (t, p) → pre p q = false) → g'.val t q = g.val t q)
    (ho : ∀ b t q x, get st t = .o x → b < w.heap.size → g.tag b = .own t q → (∀ (k : Nat) (p : List Nat), ls[k]? = some (t, p) → pre p q = false) → g'.tag b = .own t q ∧ w'.heap[b]? = w.heap[b]?)
    (hy : ∀ (k s : Nat) (p : List Nat) (y : AO), ls[k]? = some (s, p) → back[k]? = some y → ORep P w' g' s p y ∧ (y ≠ .dead → g'.val s p = g.val s p)) : Good P N (giveBack ls back st) a hv w' g' := by
  have hroot : ∀ (k s : Nat) (p : List Nat), ls[k]? = some (s, p) → ∃ x, get st s = .o x := by
    intro k s p hk
    obtain ⟨E, cs, hb⟩ := hbox k s p hk
    unfold obj at hb
    split at hb
    · exact ⟨_, by assumption⟩
    · cases hb
  have hspec := giveBack_spec hap hlen hroot
  have huniq : ∀ {k t : Nat} {p q : List Nat}, ls[k]? = some (t, p) → pre p q = false → ∀ (k' : Nat) (p' : List Nat), ls[k']? = some (t, p') → pre p' q = false := by
    intro k t p q hk hpq k' p' hk'
    have := apart_uniq hap hk hk'
    subst this
    rw [hk] at hk'
    cases hk'
    exact hpq
  refine h.mk' (length_giveBack _ _ _) hfr (h.inv.vars.keep hs hf) (fun t v ht hv' => ?_)
  have hsr := h.get_lt ht hv'
  rcases hspec t with ⟨k, p, y, x, hk, hyk, hgx, hgr⟩ | ⟨hno, ⟨hget, hbel⟩ | ⟨hd, _⟩⟩
  · rw [hgr]
    rw [hgx] at hsr
    obtain ⟨E, cs, hb⟩ := hbox k t p hk
    have hxp : x.at p = .box E cs := by have := hb; unfold obj at this; rw [hgx] at this; exact this
    have hlive : x.at p ≠ .dead := by rw [hxp]; simp
    obtain ⟨y1, y2⟩ := hy k t p y hk hyk
    have hxd : x ≠ .dead := by rintro rfl; exact hlive (at_dead p)
    cases hsr with
    | o _ _ hv0 hor =>
      refine .o _ v (fun hd => ?_) (hor.upd hs hf p [] x (by simpa using y1) (fun q hq => hval t q x hgx (huniq hk (by simpa using hq))) (fun b q hb htb hq => ho b t q x hgx hb htb (huniq hk (by simpa using hq))) (fun hd => ⟨hlive, by simpa using y2 hd⟩))
      rw [hv0 hxd]
      cases p with
      | nil => simp only [AO.upd] at hd; exact (y2 hd).symm
      | cons i p => exact (hval t [] x hgx (huniq hk rfl)).symm
  · rw [hget]
    by_cases hox : ∃ z, get st t = .o z
    · obtain ⟨z, hz⟩ := hox
      rw [hz] at hsr ⊢
      cases hsr with
      | o _ _ hv0 hor =>
        exact .o z v (fun hd => by rw [hv0 hd, hval t [] z hz (fun k p hk => absurd hk (hno k p))]) (hor.ext hs hf (fun q => by simpa using hval t q z hz (fun k p hk => absurd hk (hno k p))) (fun b q hb htb => by simpa using ho b t q z hz hb (by simpa using htb) (fun k p hk => absurd hk (hno k p))))
    · refine hsr.keep2 hs hf (fun z hz => hox ⟨z, hz⟩) (fun r q hrq => ?_)
      rcases hspec r with ⟨k, p, y, x, hk, hyk, hgx, hgr⟩ | ⟨hno', ⟨hget', _⟩ | ⟨hd', _⟩⟩
      · have hob : obj st r q = x.at q := by unfold obj; rw [hgx]
        have hob' : obj (giveBack ls back st) r q = (AO.upd y x p).at q := by unfold obj; rw [hgr]
        rw [hob, hob']
        obtain ⟨E, cs, hb⟩ := hbox k r p hk
        have hxp : x.at p = .box E cs := by have := hb; unfold obj at this; rw [hgx] at this; exact this
        cases hpq : pre p q with
        | false => exact .inr ⟨upd_at_not y p x q hpq, hval r q x hgx (huniq hk hpq)⟩
        | true =>
          have hqp : q = p := by
            have hb := hbel k r p hk
            rcases hrq with hrq | ⟨off, hrq⟩ | ⟨i, off, hrq⟩ <;> rw [hrq] at hb <;> simp [AV.below, hpq, nbeq] at hb
            · exact pre_antisymm hpq hb
            · exact pre_antisymm hpq hb
          subst hqp
          have := upd_at_ext y q x [] (by rw [hxp]; simp)
          simp only [List.append_nil, AO.at] at this
          rw [this]
          obtain ⟨_, y2⟩ := hy k r q y hk hyk
          have hoy := hok y (List.mem_of_getElem? hyk)
          cases y with
          | dead => exact .inl rfl
          | box E' cs' => exact .inr ⟨⟨fun _ => by rw [hxp]; simp, fun E1 cs1 _ => ⟨E, cs, hxp⟩, fun _ _ he => by cases he⟩, y2 (by simp)⟩
          | pv _ _ => cases hoy
          | arr _ _ => cases hoy
      · by_cases hro : ∃ z, get st r = .o z
        · obtain ⟨z, hz⟩ := hro
          have hob : obj (giveBack ls back st) r q = obj st r q := by unfold obj; rw [hget']
          rw [hob]
          exact .inr ⟨Compat.refl _, hval r q z hz (fun k p hk => absurd hk (hno' k p))⟩
        · left
          unfold obj; rw [hget']
          split
          · rename_i z hz; exact absurd ⟨z, hz⟩ hro
          · rfl
      · left
        unfold obj; rw [hd']
  · rw [hd]; exact .dead v

end
end Go.V

namespace Go.V

/-- Which lent object a place belongs to. -/
def lentAt : List (Nat × List Nat) → Nat → List Nat → Option (Nat × List Nat)
  | [], _, _ => none
  | (s', p') :: ls, s, p => if s' = s then (if pre p' p = true then some (0, p.drop p'.length) else none) else (lentAt ls s p).map fun x => (x.1 + 1, x.2)

theorem lentAt_some : ∀ {ls : List (Nat × List Nat)} {s : Nat} {q : List Nat} {k : Nat} {z : List Nat}, lentAt ls s q = some (k, z) → ∃ p, ls[k]? = some (s, p) ∧ q = p ++ z
  | [], _, _, _, _, h => by simp [lentAt] at h
  | (s', p') :: ls, s, q, k, z, h => by
    simp only [lentAt] at h
    split at h
    · rename_i hs
      subst hs
      split at h
      · rename_i hp
        simp at h
        obtain ⟨rfl, rfl⟩ := h
        obtain ⟨r, rfl⟩ := (pre_iff _ _).1 hp
        exact ⟨p', rfl, by simp⟩
      · cases h
    · cases hl : lentAt ls s q with
      | none => rw [hl] at h; cases h
      | some x =>
        rw [hl] at h
        simp at h
        obtain ⟨rfl, rfl⟩ := h
        obtain ⟨p, h1, h2⟩ := lentAt_some (k := x.1) (z := x.2) hl
        exact ⟨p, by simpa using h1, h2⟩

theorem lentAt_of : ∀ {ls : List (Nat × List Nat)}, apartLocs ls = true → ∀ {k s : Nat} {p z : List Nat}, ls[k]? = some (s, p) → lentAt ls s (p ++ z) = some (k, z)
  | [], _, _, _, _, _, h => by simp at h
  | (s', p') :: ls, ha, k, s, p, z, h => by
    simp only [apartLocs, Bool.and_eq_true, List.all_eq_true, Bool.not_eq_true', nbeq, decide_eq_false_iff_not] at ha
    obtain ⟨h1, h2⟩ := ha
    cases k with
    | zero =>
      simp at h
      obtain ⟨rfl, rfl⟩ := h
      have : pre p' (p' ++ z) = true := (pre_iff _ _).2 ⟨z, rfl⟩
      simp [lentAt, this]
    | succ k =>
      simp at h
      have hne : s' ≠ s := h1 (s, p) (List.mem_of_getElem? h)
      simp [lentAt, hne, lentAt_of h2 h]

theorem lentAt_none {ls : List (Nat × List Nat)} {s : Nat} {q : List Nat} (h : ∀ (k : Nat) (p : List Nat), ls[k]? = some (s, p) → pre p q = false) : lentAt ls s q = none := by
  cases hl : lentAt ls s q with
  | none => rfl
  | some x =>
    obtain ⟨p, h1, rfl⟩ := lentAt_some (k := x.1) (z := x.2) hl
    have := h _ p h1
    rw [(pre_iff _ _).2 ⟨x.2, rfl⟩] at this; cases this

/-- The ghosts that a callee sees. -/
def G.lend (g : G) (ls : List (Nat × List Nat)) : G :=
  { tag := fun b => match g.tag b with
      | .own s p => (match lentAt ls s p with | some (k, q) => .own k q | none => .out)
      | t => t,
    val := fun k q => match ls[k]? with | some (s, p) => g.val s (p ++ q) | none => undef }

/-- The ghosts behind the call. -/
def G.give (g g' : G) (ls : List (Nat × List Nat)) (d : Nat) : G :=
  { tag := fun b => match g'.tag b with
      | .free => .free
      | .out => g.tag b
      | .own k q => if k = ls.length then .own d q else (match ls[k]? with | some (s, p) => .own s (p ++ q) | none => .free),
    val := fun s q => if s = d then g'.val ls.length q else match lentAt ls s q with | some (k, z) => g'.val k z | none => g.val s q }

section
variable {P : Program} {N : Nat} {st st' : St} {a : Act} {hv : List Value} {w w' : World} {g g' : G} {K : St → R} {r : List AO × List AO} {o : Oper} {next : Act → World → Prop} {Q : Exit → Act → World → Prop} {call : CallF}

theorem takeArg_sound (h : Good P N st a hv w g) {T : TypeId} {x : Operand} (hx : tmpOk N x = true) {y : AO} {l : Option (Nat × List Nat)} (ht : takeArg P T st x = some (y, l)) :
    (∃ v, y = .pv (tyOf P T) v ∧ l = none ∧ PRep P w g (tyOf P T) v (a.eval x)) ∨ ∃ s p E cs, y = .box E cs ∧ l = some (s, p) ∧ obj st s p = .box E cs ∧ a.eval x = g.val s p := by
  unfold takeArg at ht
  cases hp : opPure st x with
  | true =>
    simp only [hp, cond_true] at ht
    split at ht
    · rename_i v hv'
      cases ht
      exact .inl ⟨v, rfl, rfl, h.rd hx hv'⟩
    · cases ht
  | false =>
    simp only [hp, cond_false] at ht
    split at ht
    · rename_i s p hl
      split at ht
      · rename_i E cs hob
        cases ht
        exact .inr ⟨s, p, E, cs, rfl, rfl, hob, (locOf_sound h hx hl).1⟩
      · cases ht
    · cases ht

theorem takeArgs_sound (h : Good P N st a hv w g) : ∀ {l : List (Operand × TypeId)} {as : List AO} {ls : List (Nat × List Nat)}, takeArgs P st l = some (as, ls) → (∀ p ∈ l, tmpOk N p.1 = true) →
    as.length = l.length ∧ nLent as = ls.length ∧ (∀ (k s : Nat) (p : List Nat), ls[k]? = some (s, p) → ∃ E cs, obj st s p = .box E cs) ∧
    ∀ (gc : G) (k0 : Nat), (∀ b, b < w.heap.size → g.tag b = .free → gc.tag b = .free ∧ w.heap[b]? = w.heap[b]?) → (∀ (j s : Nat) (p : List Nat) (E : TypeId) (cs : List AO), ls[j]? = some (s, p) → obj st s p = .box E cs → ORep P w gc (k0 + j) [] (.box E cs) ∧ gc.val (k0 + j) [] = g.val s p) →
      ArgsRep P w gc k0 as (l.map fun p => a.eval p.1)
  | [], as, ls, ht, _ => by
    simp [takeArgs] at ht
    obtain ⟨rfl, rfl⟩ := ht
    exact ⟨rfl, rfl, fun _ _ _ hk => by simp at hk, fun _ _ _ _ => trivial⟩
  | (x, T) :: l, as, ls, ht, hok => by
    simp only [takeArgs] at ht
    split at ht
    · rename_i y lo hy
      split at ht
      · rename_i ys ls' hys
        obtain ⟨e1, e2, e3, e4⟩ := takeArgs_sound h hys (fun p hp => hok p (List.mem_cons_of_mem _ hp))
        rcases takeArg_sound h (hok (x, T) List.mem_cons_self) hy with ⟨v, rfl, rfl, hp⟩ | ⟨s, p, E, cs, rfl, rfl, hob, hev⟩
        · cases ht
          refine ⟨by simp [e1], by simpa [nLent] using e2, e3, fun gc k0 hf hl => ⟨hp.ext (Nat.le_refl _) hf, e4 gc k0 hf hl⟩⟩
        · cases ht
          refine ⟨by simp [e1], by simp [nLent, e2], fun k s' p' hk => ?_, fun gc k0 hf hl => ?_⟩
          · cases k with
            | zero => simp at hk; obtain ⟨rfl, rfl⟩ := hk; exact ⟨E, cs, hob⟩
            | succ k => exact e3 k s' p' (by simpa using hk)
          · obtain ⟨l1, l2⟩ := hl 0 s p E cs rfl hob
            refine ⟨by simp, l1, hev.trans l2.symm, e4 gc (k0 + 1) hf (fun j s' p' E' cs' hj hob' => ?_)⟩
            have := hl (j + 1) s' p' E' cs' (by simpa using hj) hob'
            rw [show k0 + 1 + j = k0 + (j + 1) by omega]; exact this
      · cases ht
    · cases ht

theorem likes_get : ∀ {xs ys : List AO} {i : Nat} {y : AO}, likes xs ys = true → ys[i]? = some y → ∃ x, xs[i]? = some x ∧ like x y = true
  | [], [], i, y, _, h => by simp at h
  | [], _ :: _, i, y, h, _ => by simp [likes] at h
  | _ :: _, [], i, y, h, _ => by simp [likes] at h
  | x :: xs, z :: ys, i, y, h, hy => by
    simp only [likes, Bool.and_eq_true] at h
    cases i with
    | zero => simp at hy; subst hy; exact ⟨x, rfl, h.1⟩
    | succ i =>
      obtain ⟨x', h1, h2⟩ := likes_get h.2 (by simpa using hy)
      exact ⟨x', by simpa using h1, h2⟩

mutual
theorem reproj_eq : ∀ (x y : AO), like x y = true → reproj x y = y
  | .pv t v, y, h => by
    cases y <;> simp [like] at h
    have := Ty.eq_of h
    subst this; simp [reproj, aoPV]
  | .arr E l, y, h => by
    cases y <;> simp [like, nbeq] at h
    subst h; simp [reproj, aoArr]
  | .box E cs, y, h => by
    cases y with
    | box F ds =>
      simp only [like, Bool.and_eq_true] at h
      have := Nat.eq_of_beq_eq_true h.1
      subst this
      simp only [reproj]
      rw [reprojs_eq cs ds (.box E ds) 0 h.2 (fun i => by simp [aoCell])]
    | _ => simp [like] at h
  | .dead, y, h => by
    cases y <;> simp [like] at h
    rfl
theorem reprojs_eq : ∀ (xs ys : List AO) (y : AO) (k : Nat), likes xs ys = true → (∀ i, aoCell y (k + i) = nth .dead ys i) → reprojs xs y k = ys
  | [], [], y, k, _, _ => rfl
  | [], _ :: _, y, k, h, _ => by simp [likes] at h
  | _ :: _, [], y, k, h, _ => by simp [likes] at h
  | x :: xs, z :: ys, y, k, h, hy => by
    simp only [likes, Bool.and_eq_true] at h
    have h0 := hy 0
    simp only [Nat.add_zero] at h0
    simp only [reprojs]
    rw [h0, reprojs_eq xs ys y (k + 1) h.2 (fun i => by have := hy (i + 1); rw [show k + 1 + i = k + (i + 1) by omega]; exact this)]
    have : nth AO.dead (z :: ys) 0 = z := rfl
    rw [this, reproj_eq x z h.1]
end

theorem backs_eq_at : ∀ {xs ys back res : List AO} {k : Nat}, likes xs ys = true → (∀ i, nth .dead back (k + i) = nth .dead ys i) → backsOf (some (res, back)) xs k = ys
  | [], [], back, res, k, _, _ => rfl
  | [], _ :: _, back, res, k, h, _ => by simp [likes] at h
  | _ :: _, [], back, res, k, h, _ => by simp [likes] at h
  | x :: xs, z :: ys, back, res, k, h, hy => by
    simp only [likes, Bool.and_eq_true] at h
    have h0 := hy 0
    simp only [Nat.add_zero] at h0
    simp only [backsOf, backAt]
    rw [h0, backs_eq_at (k := k + 1) h.2 (fun i => by have := hy (i + 1); rw [show k + 1 + i = k + (i + 1) by omega]; exact this)]
    have : nth AO.dead (z :: ys) 0 = z := rfl
    rw [this, reproj_eq x z h.1]

theorem backs_eq {xs back res : List AO} (h : likes xs back = true) : backsOf (some (res, back)) xs 0 = back := backs_eq_at h (fun i => by simp)

theorem takeArgs_box : ∀ {l : List (Operand × TypeId)} {as : List AO} {ls : List (Nat × List Nat)}, takeArgs P st l = some (as, ls) → ∀ x ∈ lentOf as, ∃ E cs, x = .box E cs
  | [], as, ls, ht, x, hx => by
    simp [takeArgs] at ht
    obtain ⟨rfl, rfl⟩ := ht
    simp [lentOf] at hx
  | (y, T) :: l, as, ls, ht, x, hx => by
    simp only [takeArgs] at ht
    split at ht
    · rename_i z lo hz
      split at ht
      · rename_i ys ls' hys
        cases ht
        have ih := takeArgs_box hys
        unfold takeArg at hz
        cases hp : opPure st y with
        | true =>
          simp only [hp, cond_true] at hz
          split at hz
          · cases hz; exact ih x (by simpa [lentOf] using hx)
          · cases hz
        | false =>
          simp only [hp, cond_false] at hz
          split at hz
          · split at hz
            · cases hz
              simp only [lentOf, List.mem_cons] at hx
              rcases hx with rfl | hx
              · exact ⟨_, _, rfl⟩
              · exact ih x hx
            · cases hz
          · cases hz
      · cases ht
    · cases ht

theorem obj_put_dead {d : Nat} {s : Nat} {p : List Nat} (h : s ≠ d) : obj (put d .dead st) s p = obj st s p := obj_put .dead h p

theorem evL_call (hcall : CallOk P call) (h0 : Good P N st a hv w g) {c : Call} (hop : o.op = .call c) {f : FuncId} (hf : c.callee = .value (.func f)) (hok : opOk N o) (hdN : ∀ i, o.dst = some i → i < N) (hk : evL P call o st K = some r) (hpost : ThenL P N hv w g K r next) : o.wp P a w next Q := by
  have hmem : ∀ x ∈ c.args.toList, tmpOk N x = true := fun x hx => hok x (by
    simp only [hop, Op.operands, Call.operands, hf, Array.mem_append]; exact .inr (Array.mem_toList_iff.1 hx))
  cases hdd : o.dst with
  | none => simp [evL, hop, hf, hdd] at hk
  | some d =>
  have hdN := hdN d hdd
  simp only [evL, hop, hf, hdd] at hk
  obtain ⟨g0, h, f0⟩ := good_freezeOps h0 c.args.toList st g h0
  generalize freezeOps c.args.toList st = st1 at hk h
  split at hk
  · rename_i as ls has
    obtain ⟨hc, hk⟩ := guardB_true hk
    simp only [Bool.and_eq_true, List.all_eq_true, Bool.not_eq_true', nbeq, decide_eq_false_iff_not] at hc
    obtain ⟨c1, c2, c3⟩ := hc
    have c1 : as.length = c.args.size := by simpa using c1
    obtain ⟨hbk0, hk⟩ := guardB_true hk
    obtain ⟨res, back, av, hcf, hk, hav⟩ := retQ_inv hk
    rw [hcf] at hbk0 hk
    have hlk : likes (lentOf as) back = true := hbk0
    rw [backs_eq hlk] at hk
    have hob : ∀ y ∈ back, okBack y = true := by
      intro y hy
      obtain ⟨i, hi⟩ := List.getElem?_of_mem hy
      obtain ⟨x, hx, hxy⟩ := likes_get hlk hi
      have hbx := takeArgs_box has x (List.mem_of_getElem? hx)
      obtain ⟨E, cs, rfl⟩ := hbx
      cases y <;> simp [like] at hxy
      rfl
    obtain ⟨e1, e2, e3, e4⟩ := takeArgs_sound h has (fun p hp => hmem p.1 (List.of_mem_zip hp).1)
    have hzl : (c.args.toList.zip c.argTypes.toList).map (fun p => a.eval p.1) = (c.args.map a.eval).toList := by
      simp only [List.length_zip, Array.length_toList] at e1
      have h1 : (c.args.toList.zip c.argTypes.toList).map Prod.fst = c.args.toList := List.map_fst_zip (by simp; omega)
      rw [Array.toList_map, ← h1, List.map_map, h1]; rfl
    have hlen : st1.length = N + hv.length := h.len
    have hsd : ∀ (k s : Nat) (p : List Nat), ls[k]? = some (s, p) → s ≠ d := fun k s p hkk => c3 (s, p) (List.mem_of_getElem? hkk)
    have hargs := e4 (g0.lend ls) 0 (fun b _ hb => ⟨by simp [G.lend, hb], rfl⟩) (fun j s p E cs hj hbx => by
      rw [Nat.zero_add]
      have hor := h.obj s p
      rw [hbx] at hor
      have hvl : ∀ q, (g0.lend ls).val j q = g0.val s (p ++ q) := fun q => by simp [G.lend, hj]
      refine ⟨hor.ext (s' := j) (p' := []) (Nat.le_refl _) (fun b _ hb => ⟨by simp [G.lend, hb], rfl⟩) (fun q => by rw [List.nil_append]; exact hvl q) (fun b q hb ht => ⟨?_, rfl⟩), by simpa using hvl []⟩
      simp [G.lend, ht, lentAt_of c2 hj])
    rw [hzl] at hargs
    have hfresh : ∀ b, w.heap.size ≤ b → (g0.lend ls).tag b = .free := fun b hb => by simp [G.lend, h.inv.fresh b hb]
    have hown : ∀ b s p, (g0.lend ls).tag b = .own s p → s < nLent as := by
      intro b s p ht
      rw [e2]
      simp only [G.lend] at ht
      split at ht
      · split at ht
        · rename_i hl
          cases ht
          obtain ⟨p', h1, _⟩ := lentAt_some hl
          exact (List.getElem?_eq_some_iff.1 h1).1
        · cases ht
      · rename_i hno
        exact absurd ht (hno s p)
    refine wp_call hop hf (hcall.ok f as res back hcf _ w (g0.lend ls) hargs hfresh (h.inv.vars.keep (Nat.le_refl _) (fun b _ hb => ⟨by simp [G.lend, hb], rfl⟩)) hown) ?_
    rintro e w' ⟨v, g', rfl, fr, hres, htag, hbl, hbk⟩
    refine ⟨v, rfl, ?_⟩
    rw [hdd]
    rw [e2] at hres htag hbl
    -- the ghosts
    have hlendout : ∀ b t q, g0.tag b = .own t q → lentAt ls t q = none → (g0.lend ls).tag b = .out := by
      intro b t q ht hl; simp [G.lend, ht, hl]
    have hpf : ∀ b, b < w.heap.size → g0.tag b = .free → (g0.give g' ls d).tag b = .free ∧ w'.heap[b]? = w.heap[b]? := by
      intro b hb ht
      obtain ⟨t1, t2⟩ := fr.free b hb (by simp [G.lend, ht])
      exact ⟨by simp [G.give, t1], t2⟩
    have hpf' : ∀ b, b < w'.heap.size → g'.tag b = .free → (g0.give g' ls d).tag b = .free ∧ w'.heap[b]? = w'.heap[b]? := fun b _ ht => ⟨by simp [G.give, ht], rfl⟩
    have hfr : ∀ b, w'.heap.size ≤ b → (g0.give g' ls d).tag b = .free := fun b hb => by simp [G.give, fr.fresh b hb]
    have hF : Fr w g0 w' (g0.give g' ls d) := by
      refine ⟨fr.os, fr.tape, fr.output, fr.size, hpf, fun b hb ht => ?_, fun b hb => ?_, hfr⟩
      · obtain ⟨t1, t2⟩ := fr.out b hb (by simp [G.lend, ht])
        exact ⟨by simp [G.give, t1, ht], t2⟩
      · simp only [G.give] at hb
        split at hb
        · cases hb
        · rename_i ht; exact ⟨hb, (fr.noOut b ht).2⟩
        · split at hb
          · cases hb
          · split at hb <;> cases hb
    have h1 : Good P N (put d .dead st1) (a.put (some d) v) hv w g0 := h.put hdN (QFr.refl w g0 _ h.inv.fresh) (.dead v)
    have hdd0 : ∀ x, get (put d .dead st1) d ≠ .o x := by
      intro x; rw [get_put, if_pos ⟨rfl, Nat.lt_of_lt_of_le hdN (by rw [hlen]; exact Nat.le_add_right _ _)⟩]; simp
    have h2 := good_giveBack h1 (g' := g0.give g' ls d) (w' := w') c2 (back := back) hbl (fun k s p hkk => by
      rw [obj_put_dead (hsd k s p hkk)]; exact e3 k s p hkk) hob fr.size hpf hfr (fun t q x hx hno => by
      have htd : t ≠ d := by rintro rfl; exact hdd0 x hx
      simp [G.give, htd, lentAt_none hno]) (fun b t q x hx hb ht hno => by
      have hout := hlendout b t q ht (lentAt_none hno)
      obtain ⟨t1, t2⟩ := fr.out b hb hout
      exact ⟨by simp [G.give, t1, ht], t2⟩) (fun k s p y hkk hyk => by
      obtain ⟨b1, b2⟩ := hbk k y hyk
      have hkl : k < ls.length := (List.getElem?_eq_some_iff.1 hkk).1
      have hvl : ∀ q, (g0.give g' ls d).val s (p ++ q) = g'.val k q := fun q => by simp [G.give, hsd k s p hkk, lentAt_of c2 hkk]
      refine ⟨b1.ext (s' := s) (p' := p) (Nat.le_refl _) hpf' (fun q => by rw [List.nil_append]; exact hvl q) (fun b q hb ht => ⟨?_, rfl⟩), fun hyd => ?_⟩
      · simp only [List.nil_append] at ht
        simp [G.give, ht, Nat.ne_of_lt hkl, hkk]
      · have := hvl []
        rw [List.append_nil] at this
        rw [this, b2 hyd]
        simp [G.lend, hkk])
    have fin : ∀ av, SRep P w' (g0.give g' ls d) (giveBack ls back (put d .dead st1)) d av v → K (put d av (giveBack ls back (put d .dead st1))) = some r → next (a.put (some d) v) w' := by
      intro av hs hk
      have h3 := h2.put hdN (QFr.refl w' (g0.give g' ls d) (some d) hfr) hs
      rw [act_put_put] at h3
      exact hpost _ _ w' _ h3 (f0.trans hF) hk
    have htup : ∀ xs : List AO, (∃ vs, v = .tuple ⟨vs⟩ ∧ vs.length = xs.length ∧ ∀ (i : Nat) (x : AO) (v : Value), xs[i]? = some x → vs[i]? = some v → ∃ t y, x = .pv t y ∧ PRep P w' g' t y v) →
        SRep P w' (g0.give g' ls d) (giveBack ls back (put d .dead st1)) d (.tup xs) v := by
      rintro xs ⟨vs, rfl, h1, h2⟩
      refine .tup xs vs h1 (fun j x u hx hu => ?_)
      obtain ⟨t, y, e1, e2⟩ := h2 j x u hx hu
      exact ⟨t, y, e1, e2.ext (Nat.le_refl _) hpf'⟩
    rcases hav with ⟨x, rfl, rfl⟩ | ⟨rfl, hne⟩
    · obtain ⟨ho, hv'⟩ := hres
      refine fin _ (.o x v (fun hd => by simp [G.give, hv' hd]) ?_) hk
      refine ho.ext (s' := d) (p' := []) (Nat.le_refl _) hpf' (fun q => by simp [G.give]) (fun b q hb ht => ⟨?_, rfl⟩)
      simp only [List.nil_append] at ht ⊢
      simp [G.give, ht]
    · refine fin _ (htup res ?_) hk
      match res, hne, hres with
      | [], _, hres => exact hres
      | [x], hne, _ => exact absurd rfl hne
      | x :: y :: zs, _, hres => exact hres
  · cases hk

end
end Go.V

namespace Go.V
section
variable {P : Program} {N : Nat} {st st' : St} {a : Act} {hv : List Value} {w w' : World} {g g' : G} {K : St → R} {r : List AO × List AO} {o : Oper} {next : Act → World → Prop} {Q : Exit → Act → World → Prop} {call : CallF}

theorem dstOk_and (h : dstOk N o = true) : opOk N o ∧ ∀ i, o.dst = some i → i < N := by
  simp only [dstOk, Bool.and_eq_true, List.all_eq_true] at h
  obtain ⟨h1, h2⟩ := h
  refine ⟨fun x hx => h2 x (Array.mem_toList_iff.2 hx), fun i hi => ?_⟩
  rw [hi] at h1
  exact of_decide_eq_true h1

theorem evL_sound (hcall : CallOk P call) (h : Good P N st a hv w g) (hok : opOk N o) (hdN : ∀ i, o.dst = some i → i < N) (hloud : isLoud P o st = true) (hk : evL P call o st K = some r) (hpost : ThenL P N hv w g K r next) : o.wp P a w next Q := by
  cases hop : o.op with
  | build T ps => simp only [evL, hop] at hk; exact evL_freeze hcall h hok hdN _ hk hpost
  | buildSlice T n ps => simp only [evL, hop] at hk; exact evL_freeze hcall h hok hdN _ hk hpost
  | assign x =>
    cases x with
    | tmp i =>
      have hi : i < N := by have := hok (.tmp i) (by simp [hop, Op.operands]); simpa [tmpOk] using this
      cases hd : o.dst with
      | none => simp [evL, hop, hd] at hk
      | some d =>
        simp only [evL, hop, hd] at hk
        split at hk
        · rename_i z hz
          obtain ⟨hc, hk⟩ := guardB_true hk
          simp only [Bool.not_eq_true', nbeq, decide_eq_false_iff_not] at hc
          by_cases hzd : z = .dead
          · subst hzd
            simp [isLoud, hop, hz] at hloud
          · exact evL_assign h hop hd hi (hdN d hd) hc hz hzd hk hpost
        · cases hk
    | _ => simp [evL, hop] at hk
  | store T addr x => exact evL_store h hop hok hk hpost
  | load T addr => exact evL_load hcall h hop hok hdN hk hpost
  | box E x => exact evL_box h hop hok hdN hk hpost
  | slice T x lo hi mx =>
    cases mx with
    | none => exact evL_slice h hop hok hdN hk hpost
    | some _ => simp [evL, hop] at hk
  | call c =>
    cases hcc : c.callee with
    | builtin b =>
      cases b with
      | append => exact evL_append h hop hcc hok hdN hk hpost
      | _ => simp [evL, hop, hcc] at hk
    | value v =>
      cases v with
      | func f => exact evL_call hcall h hop hcc hok hdN hk hpost
      | _ => simp [evL, hop, hcc] at hk
    | _ => simp [evL, hop, hcc] at hk
  | _ => simp [evL, hop] at hk

theorem evOp_sound (hcall : CallOk P call) (h : Good P N st a hv w g) (hd : dstOk N o = true) (hk : evOp P call o st K = some r) (hpost : ThenL P N hv w g K r next) : o.wp P a w next Q := by
  obtain ⟨hok, hdN⟩ := dstOk_and hd
  unfold evOp at hk
  cases hl : isLoud P o st with
  | true => simp only [hl, cond_true] at hk; exact evL_sound hcall h hok hdN hl hk hpost
  | false => simp only [hl, cond_false] at hk; exact evQ_sound hcall h hok hk (then_of_L h hdN hpost)

end
end Go.V

namespace Go.V
section
variable {P : Program} {N : Nat} {st st' : St} {a : Act} {hv : List Value} {w w' : World} {g g' : G} {K : St → R} {r : List AO × List AO} {o : Oper} {next : Act → World → Prop} {Q : Exit → Act → World → Prop} {call : CallF} {ops : Array Oper}

/-- A slot that holds a truth value. -/
theorem Good.bool (h : Good P N st a hv w g) {d : Nat} (hd : d < N) {v : PV} (hg : get st d = .o (.pv .bool v)) : v = .bool v.toBool ∧ a.eval (.tmp d) = .bool v.toBool := by
  have hs := h.slotAt hd hg
  cases hs with
  | o _ _ hv0 hor =>
    obtain ⟨b, rfl, hb⟩ := hor.pv_inv.bool_inv
    exact ⟨rfl, by rw [hv0 (by simp)]; exact hb⟩

theorem Good.known (h : Good P N st a hv w g) {d : Nat} (hd : d < N) {v : PV} (hg : get st d = .o (.pv .bool v)) {b : Bool} (hb : v.toBool = b) : known d b st = st := by
  have hv' := (h.bool hd hg).1
  have hl := h.len
  have hlt : d < st.length := Nat.lt_of_lt_of_le hd (by rw [hl]; exact Nat.le_add_right _ _)
  have hgd : st[d]? = some (.o (.pv .bool (.bool b))) := by
    rw [get, nth_eq, List.getElem?_eq_getElem hlt] at hg
    rw [List.getElem?_eq_getElem hlt, ← hb, ← hv']
    simpa using hg
  unfold V.known
  apply List.ext_getElem?
  intro i
  rw [List.getElem?_set]
  split
  · rename_i hi
    subst hi
    rw [hgd]
  · rfl

theorem Good.yields (h : Good P N st a hv w g) {j d : Nat} (hj : (ops[j]?).bind (·.dst) = some d) (hd : d < N) {v : PV} (hg : get st d = .o (.pv .bool v)) : yielded ops a.tmps j = some v.toBool := by
  have hb := (h.bool hd hg).2
  have hsz := h.sz
  unfold yielded
  rw [hj, Option.bind_some]
  simp only [Act.eval] at hb
  have hlt : d < a.tmps.size := by omega
  rw [Array.getD, dif_pos hlt] at hb
  rw [Array.getElem?_eq_getElem hlt]
  have hb' : a.tmps[d] = .bool v.toBool := hb
  simp [hb']

theorem wanted_none (hg : o.guard = none) (y : Nat → Option Bool) : Region.wanted o y = true := by unfold Region.wanted; rw [hg]
theorem wanted_some {j : Nat} {want b : Bool} (hg : o.guard = some (j, want)) {y : Nat → Option Bool} (hy : y j = some b) : Region.wanted o y = (b == want) := by
  unfold Region.wanted; rw [hg]
  simp only [hy]
  cases b <;> cases want <;> rfl

theorem Good.skip (h : Good P N st a hv w g) (hd : ∀ i, o.dst = some i → i < N) : Good P N (V.putD o.dst (.tup []) st) (a.put o.dst undef) hv w g :=
  h.putD hd (QFr.refl w g _ h.inv.fresh) (fun _ _ => .tup [] [] rfl (fun i x v hx => by simp at hx))

/-- A slot of an operation that was not wanted. -/
theorem Good.unyields (h : Good P N st a hv w g) {j d : Nat} (hj : (ops[j]?).bind (·.dst) = some d) (hd : d < N) (hg : get st d = .tup []) : yielded ops a.tmps j = none := by
  have hs := h.slotAt hd hg
  have hb : a.eval (.tmp d) = .tuple #[] := by
    generalize a.eval (.tmp d) = v at hs
    cases hs with
    | tup _ vs hl _ =>
      have : vs = [] := List.eq_nil_of_length_eq_zero hl
      subst this; rfl
  have hsz := h.sz
  unfold yielded
  rw [hj, Option.bind_some]
  simp only [Act.eval] at hb
  have hlt : d < a.tmps.size := by omega
  rw [Array.getD, dif_pos hlt] at hb
  rw [Array.getElem?_eq_getElem hlt]
  have hb' : a.tmps[d] = .tuple #[] := hb
  simp [hb']

theorem wanted_un {j : Nat} {want : Bool} (hg : o.guard = some (j, want)) {y : Nat → Option Bool} (hy : y j = none) : Region.wanted o y = false := by
  unfold Region.wanted; rw [hg]
  simp only [hy]
  cases want <;> rfl

theorem evOps_sound (hcall : CallOk P call) : ∀ (l : List Nat) (st : St) (a : Act) (w : World) (g : G), Good P N st a hv w g → evOps P call N ops l st K = some r → ThenL P N hv w g K r (Q .normal) → wpOps P ops Q l a w
  | [], st, a, w, g, h, hk, hpost => by
    simp only [evOps] at hk
    exact hpost st a w g h (Fr.refl w g h.inv.fresh) hk
  | i :: rest, st, a, w, g, h, hk, hpost => by
    simp only [evOps] at hk
    split at hk
    · cases hk
    · rename_i o ho
      obtain ⟨hok, hk⟩ := guardB_true hk
      have hdN := (dstOk_and hok).2
      have go : ∀ st1, Good P N st1 a hv w g → evOp P call o st1 (fun st => evOps P call N ops rest st K) = some r → o.wp P a w (wpOps P ops Q rest) Q := fun st1 h1 hk =>
        evOp_sound hcall h1 hok hk (fun st' a' w' g' hg hf hk => evOps_sound hcall rest st' a' w' g' hg hk (fun s1 a1 w1 g1 hg1 hf1 hk1 => hpost s1 a1 w1 g1 hg1 (hf.trans hf1) hk1))
      have no : ∀ st1, Good P N st1 a hv w g → evOps P call N ops rest (putD o.dst (.tup []) st1) K = some r → wpOps P ops Q rest (a.put o.dst undef) w := fun st1 h1 hk =>
        evOps_sound hcall rest _ _ w g (h1.skip hdN) hk hpost
      simp only [wpOps, ho]
      split at hk
      · rename_i hg
        rw [if_pos (wanted_none hg _)]
        exact .inl (go st h hk)
      · rename_i j want hg
        split at hk
        · rename_i d hj
          split at hk
          · rename_i v hgd
            obtain ⟨hd, hk⟩ := guardB_true hk
            have hd := of_decide_eq_true hd
            have hw := wanted_some hg (h.yields hj hd hgd)
            rw [hw]
            cases hvb : v.toBool with
            | true =>
              rw [hvb] at hk
              rw [h.known hd hgd hvb] at hk
              cases want with
              | true => simp only [cond_true] at hk; rw [if_pos (by rfl)]; exact .inl (go st h hk)
              | false => simp only [cond_true, cond_false] at hk; rw [if_neg (by decide)]; exact no st h hk
            | false =>
              rw [hvb] at hk
              rw [h.known hd hgd hvb] at hk
              cases want with
              | true => simp only [cond_true, cond_false] at hk; rw [if_neg (by decide)]; exact no st h hk
              | false => simp only [cond_false] at hk; rw [if_pos (by rfl)]; exact .inl (go st h hk)
          · rename_i hgd
            obtain ⟨hd, hk⟩ := guardB_true hk
            have hd := of_decide_eq_true hd
            rw [wanted_un hg (h.unyields hj hd hgd), if_neg (by decide)]
            exact no st h hk
          · cases hk
        · cases hk

end
end Go.V

namespace Go.V
section
variable {P : Program} {st : St} {o : Oper} {call : CallF} {α β : Type}

theorem cond_bind (c : Bool) (x y : Option α) (K : α → Option β) : (bif c then x else y).bind K = bif c then x.bind K else y.bind K := by cases c <;> rfl

theorem movK_bind (t : TypeId) (x : Operand) (K : AV → Option α) : movK P t st x K = (movK P t st x some).bind K := by
  unfold movK
  split
  · split <;> rfl
  · rfl
  · rfl

theorem intOp_bind (op : BinOp) (k : IntKind) (x y : Int) (K : AV → Option α) : intOp op k x y K = (intOp op k x y some).bind K := by
  cases op <;> simp only [intOp, cond_bind, Option.bind_some, Option.bind_none]

theorem strOp_bind (op : BinOp) (x y : ByteArray) (K : AV → Option α) : strOp op x y K = (strOp op x y some).bind K := by
  cases op <;> simp only [strOp, cond_bind, Option.bind_some, Option.bind_none]

theorem binQ_bind (op : BinOp) (t : TypeId) (x y : Operand) (K : AV → Option α) : binQ P op t st x y K = (binQ P op t st x y some).bind K := by
  have other : ∀ op, (match rd P st t x, rd P st t y with
    | some a, some b =>
      match tyOf P t with
      | .int k => intOp op k a.toInt b.toInt K
      | .str => strOp op a.toStr b.toStr K
      | .bool =>
        match op with
        | .eql => K (.o (.pv .bool (.bool (a.toBool == b.toBool))))
        | .neq => K (.o (.pv .bool (.bool (!(a.toBool == b.toBool)))))
        | _ => none
      | .st _ =>
        match (bif P.eqGuardType P.depth t then none else eqPV P deep t a b) with
        | some e =>
          match op with
          | .eql => K (.o (.pv .bool (.bool e)))
          | .neq => K (.o (.pv .bool (.bool (!e))))
          | _ => none
        | none => none
      | _ => none
    | _, _ => none) = Option.bind (match rd P st t x, rd P st t y with
    | some a, some b =>
      match tyOf P t with
      | .int k => intOp op k a.toInt b.toInt some
      | .str => strOp op a.toStr b.toStr some
      | .bool =>
        match op with
        | .eql => some (.o (.pv .bool (.bool (a.toBool == b.toBool))))
        | .neq => some (.o (.pv .bool (.bool (!(a.toBool == b.toBool)))))
        | _ => none
      | .st _ =>
        match (bif P.eqGuardType P.depth t then none else eqPV P deep t a b) with
        | some e =>
          match op with
          | .eql => some (.o (.pv .bool (.bool e)))
          | .neq => some (.o (.pv .bool (.bool (!e))))
          | _ => none
        | none => none
      | _ => none
    | _, _ => none) K := by
    intro op
    split
    · split
      · exact intOp_bind _ _ _ _ _
      · exact strOp_bind _ _ _ _
      · split <;> rfl
      · split
        · split <;> rfl
        · rfl
      · rfl
    · rfl
  cases op <;> simp only [binQ] <;> first
    | exact other _
    | (split
       · simp only [cond_bind, Option.bind_some, Option.bind_none]
       · rfl)

theorem unQ_bind (op : UnOp) (t : TypeId) (x : Operand) (K : AV → Option α) : unQ P op t st x K = (unQ P op t st x some).bind K := by
  unfold unQ
  split
  · split <;> rfl
  · rfl

theorem retQ_bind (T : TypeId) (c : Option (List AO × List AO)) (K : AV → Option α) : retQ P T c K = (retQ P T c some).bind K := by
  unfold retQ
  split
  · rw [cond_bind]; rfl
  · rw [cond_bind, cond_bind]; rfl
  · rw [Option.bind_assoc]
    congr 1
    funext r
    split <;> rfl
  · rw [cond_bind]; rfl

theorem evQ_bind (K : AV → Option α) : evQ P call o st K = (evQ P call o st some).bind K := by
  cases hop : o.op <;> simp only [evQ, hop]
  case move => exact movK_bind _ _ _
  case assign => exact movK_bind _ _ _
  case binOp => exact binQ_bind _ _ _ _ _
  case unOp => exact unQ_bind _ _ _ _
  all_goals try simp only [cond_bind, Option.bind_some, Option.bind_none, Option.bind_assoc]
  all_goals (repeat' split)
  all_goals try simp only [cond_bind, Option.bind_some, Option.bind_none, Option.bind_assoc]
  all_goals (repeat' split)
  all_goals try simp only [Option.bind_none]
  all_goals (congr 1; exact retQ_bind _ _ _)
end
end Go.V

namespace Go.V

/-- Two states hold the same at all that an operand names. -/
def Ag (st st' : St) (x : Operand) : Prop := ∀ s ∈ opRoots st x, get st' s = get st s

section
variable {P : Program} {st st' : St} {o : Oper} {call : CallF} {α : Type} {x : Operand}

theorem Ag.tmp {i : Nat} (h : Ag st st' (.tmp i)) : get st' i = get st i := h i (by simp [opRoots])

theorem Ag.root {i s : Nat} {p : List Nat} (h : Ag st st' (.tmp i)) (hs : get st i = .al s p ∨ (∃ off, get st i = .ptr s p off) ∨ ∃ j off, get st i = .el s p j off) (q : List Nat) : obj st' s q = obj st s q := by
  have : get st' s = get st s := h s (by rcases hs with hs | ⟨_, hs⟩ | ⟨_, _, hs⟩ <;> simp [opRoots, hs])
  unfold obj; rw [this]

theorem Ag.asPV {i : Nat} (h : Ag st st' (.tmp i)) (t : Ty) : (get st' i).asPV st' t = (get st i).asPV st t := by
  rw [h.tmp]
  cases hg : get st i with
  | al s p => simp only [AV.asPV]; rw [h.root (.inl hg)]
  | _ => rfl

theorem Ag.rd (h : Ag st st' x) (t : TypeId) : V.rd P st' t x = V.rd P st t x := by
  cases x with
  | tmp i => exact h.asPV _
  | _ => rfl

theorem Ag.rdList (h : Ag st st' x) (E : TypeId) : V.rdList st' E x = V.rdList st E x := by
  cases x with
  | tmp i =>
    simp only [V.rdList]
    rw [h.tmp]
    cases hg : get st i with
    | al s p => simp only [AV.elems]; rw [h.root (.inl hg)]
    | o y => cases y <;> rfl
    | _ => rfl
  | const v =>
    cases v with
    | slice a n c => cases a <;> cases n <;> cases c <;> rfl
    | _ => rfl
  | _ => rfl

theorem Ag.rdInt (h : Ag st st' x) : V.rdInt st' x = V.rdInt st x := by
  cases x with
  | tmp i =>
    simp only [V.rdInt]
    rw [h.tmp]
    cases hg : get st i with
    | al s p => simp only; rw [h.root (.inl hg)]
    | o y =>
      cases y with
      | pv t v => cases t <;> rfl
      | _ => rfl
    | _ => rfl
  | const v => cases v <;> rfl
  | _ => rfl

theorem Ag.locOf (h : Ag st st' x) : V.locOf st' x = V.locOf st x := by
  cases x with
  | tmp i =>
    simp only [V.locOf]
    rw [h.tmp]
    cases hg : get st i with
    | al s p => simp only; rw [h.root (.inl hg)]
    | o y => cases y <;> rfl
    | _ => rfl
  | _ => rfl

theorem Ag.asPtr (h : Ag st st' x) : V.asPtr st' x = V.asPtr st x := by
  cases x with
  | tmp i =>
    simp only [V.asPtr]
    rw [h.tmp]
    cases hg : get st i with
    | al s p => simp only; rw [h.root (.inl hg)]
    | o y => cases y <;> rfl
    | _ => rfl
  | _ => rfl

theorem Ag.locObj (h : Ag st st' x) {s : Nat} {p : List Nat} (hl : V.locOf st x = some (s, p)) : obj st' s p = obj st s p := by
  cases x with
  | tmp i =>
    simp only [V.locOf] at hl
    split at hl
    · cases hl; unfold obj; rw [h.tmp]
    · cases hl; unfold obj; rw [h.tmp]
    · rename_i s' p' hg
      split at hl
      · cases hl; exact h.root (.inl hg) _
      · cases hl; exact h.root (.inl hg) _
      · cases hl
    · cases hl
  | _ => simp [V.locOf] at hl

theorem Ag.ptrObj (h : Ag st st' x) {s off : Nat} {p : List Nat} (hl : V.asPtr st x = some (s, p, off)) : obj st' s p = obj st s p := by
  cases x with
  | tmp i =>
    simp only [V.asPtr] at hl
    split at hl
    · cases hl; unfold obj; rw [h.tmp]
    · rename_i s' p' hg
      split at hl
      · cases hl; exact h.root (.inl hg) _
      · cases hl
    · rename_i s' p' off' hg
      cases hl; exact h.root (.inr (.inl ⟨_, hg⟩)) _
    · cases hl
  | _ => simp [V.asPtr] at hl

theorem Ag.parts {T : TypeId} {fs : List Field} : ∀ {l : List (Nat × Operand)}, (∀ p ∈ l, Ag st st' p.2) → V.parts P st' T fs l = V.parts P st T fs l
  | [], _ => rfl
  | (i, x) :: r, h => by
    simp only [V.parts]
    rw [Ag.parts (l := r) (fun p hp => h p (List.mem_cons_of_mem _ hp))]
    split
    · rw [(h (i, x) List.mem_cons_self).rd]
    · rfl

theorem mapM_congr {β γ : Type} {f g : β → Option γ} : ∀ {l : List β}, (∀ x ∈ l, f x = g x) → l.mapM f = l.mapM g
  | [], _ => rfl
  | x :: l, h => by
    simp only [List.mapM_cons]
    rw [h x List.mem_cons_self, mapM_congr (fun y hy => h y (List.mem_cons_of_mem _ hy))]

theorem evQ_frame (hA : ∀ x ∈ o.op.operands, Ag st st' x) (K : AV → Option α) : evQ P call o st' K = evQ P call o st K := by
  have mov : ∀ x, (x ∈ o.op.operands) → movK P o.type st' x K = movK P o.type st x K := by
    intro x hx
    unfold movK
    cases x with
    | tmp i => simp only; rw [(hA _ hx).tmp]
    | _ => rfl
  cases hop : o.op <;> simp only [evQ, hop] <;> simp only [hop, Op.operands] at hA mov
  case move x => exact mov x (by simp)
  case assign x => exact mov x (by simp)
  case pick c a b =>
    have hc := hA c (by simp)
    have ha := hA a (by simp)
    have hb := hA b (by simp)
    cases c with
    | tmp i => simp only; rw [hc.asPV, ha.rd, hb.rd]
    | _ => rfl
  case box E x => rw [(hA x (by simp)).rd]
  case load T addr =>
    have hx := hA addr (by simp)
    cases addr with
    | tmp i =>
      simp only
      rw [hx.tmp, hx.asPtr]
      split
      · rfl
      · split
        · rename_i s p off hp
          rw [hx.ptrObj hp]
        · split
          · rename_i s p j off hg
            rw [hx.root (.inr (.inr ⟨_, _, hg⟩))]
          · rfl
    | _ => rfl
  case nilCheck x =>
    have hx := hA x (by simp)
    cases x with
    | tmp i =>
      simp only
      rw [hx.tmp]
      split
      · rfl
      · rename_i s p hg; rw [hx.root (.inl hg)]
      · rename_i s p off hg; rw [hx.root (.inr (.inl ⟨_, hg⟩))]
      · rename_i s p j off hg; rw [hx.root (.inr (.inr ⟨_, _, hg⟩))]
      · rfl
      · rfl
    | _ => rfl
  case binOp op t x y _ =>
    have hx := hA x (by simp)
    have hy := hA y (by simp)
    cases op <;> simp only [binQ] <;> rw [hx.rd] <;> first | rw [hy.rd] | rw [hy.rdInt]
  case unOp op t x => unfold unQ; rw [(hA x (by simp)).rd]
  case convert src dst x =>
    have hx := hA x (by simp)
    rw [hx.rd]
    split
    · rfl
    · rfl
    · rfl
    · rename_i e _ _; rw [hx.rdList]
    · rfl
  case makeInterface t x => rw [(hA x (by simp)).rd]
  case fieldAddr T x f =>
    have hx := hA x (by simp)
    rw [hx.asPtr]
    split
    · split
      · congr 1
        split
        · rename_i s p off hp; rw [hx.ptrObj hp]
        · cases x with
          | tmp i =>
            simp only
            rw [hx.tmp]
            split
            · rfl
            · rename_i s p j off hg; rw [hx.root (.inr (.inr ⟨_, _, hg⟩))]
            · rfl
          | _ => rfl
      · rfl
    · rfl
  case field T x f => rw [(hA x (by simp)).rd]
  case indexAddr T x ix =>
    have hx := hA x (by simp)
    rw [hx.locOf, (hA ix (by simp)).rdInt, hx.rd]
    split
    · split
      · rename_i s p hl; rw [hx.locObj hl]
      · rfl
    · rfl
  case index T x ix =>
    rw [(hA x (by simp)).rd, (hA ix (by simp)).rdInt]
  case slice T x lo hi mx =>
    have hx := hA x (by simp)
    have hlo : ∀ y, lo = some y → Ag st st' y := fun y hy => hA y (by simp [hy])
    have hhi : ∀ y, hi = some y → Ag st st' y := fun y hy => hA y (by simp [hy])
    rw [hx.rd]
    cases mx with
    | some _ => rfl
    | none =>
      cases lo <;> cases hi <;> simp only
      · rename_i y; rw [(hhi y rfl).rdInt]
      · rename_i y; rw [(hlo y rfl).rdInt]
      · rename_i y z; rw [(hlo y rfl).rdInt, (hhi z rfl).rdInt]
  case build T ps =>
    have : ∀ T fs, V.parts P st' T fs ps.toList = V.parts P st T fs ps.toList := fun T fs => Ag.parts (fun p hp => hA p.2 (by
      simp only [List.mem_toArray, List.mem_map]; exact ⟨p, hp, rfl⟩))
    split
    · rw [this]
    · rfl
  case buildSlice T n ps =>
    have : ∀ E, (ps.toList.mapM fun p => V.rd P st' E p.2 : Option (List PV)) = ps.toList.mapM fun p => V.rd P st E p.2 := fun E => mapM_congr (fun p hp => (hA p.2 (by
      simp only [List.mem_toArray, List.mem_map]; exact ⟨p, hp, rfl⟩)).rd _)
    split
    · rw [this]
    · rfl
  case makeSlice T n c => rw [(hA n (by simp)).rdInt, (hA c (by simp)).rdInt]
  case extract x i =>
    have hx := hA x (by simp)
    cases x with
    | tmp t => simp only; rw [hx.tmp]
    | _ => rfl
  case call c =>
    have hm : ∀ x ∈ c.args.toList, Ag st st' x := fun x hx => hA x (by
      simp only [Call.operands, Array.mem_append]; exact .inr (Array.mem_toList_iff.1 hx))
    split
    · split
      · rename_i T x hT hx
        have hx := hm x (Array.mem_toList_iff.2 (Array.mem_of_getElem? hx))
        rw [hx.rd]
        split
        · rfl
        · rw [hx.rdList]
        · rfl
      · rfl
    · split
      · rename_i x y hc
        rw [(hm x (by simp [hc])).rd, (hm y (by simp [hc])).rd]
      · rfl
    · split
      · rename_i x y hc
        rw [(hm x (by simp [hc])).rd, (hm y (by simp [hc])).rd]
      · rfl
    · have : ((c.args.toList.zip c.argTypes.toList).mapM fun p => (V.rd P st' p.2 p.1).map fun v => AO.pv (tyOf P p.2) v) = (c.args.toList.zip c.argTypes.toList).mapM fun p => (V.rd P st p.2 p.1).map fun v => AO.pv (tyOf P p.2) v := mapM_congr (fun p hp => by
        rw [(hm p.1 (List.of_mem_zip hp).1).rd])
      rw [this]
    · rfl

end
end Go.V

namespace Go.V
section
variable {P : Program} {N : Nat} {st st' : St} {o : Oper} {call : CallF} {ops : Array Oper}

theorem rooted_o {d : Nat} {p : List Nat} {x : AO} : (AV.o x).rooted d p = false := rfl

theorem rooted_ref {d : Nat} {c : AV} (h : c.rooted d [] = true) : (∃ p, c = .al d p) ∨ (∃ p off, c = .ptr d p off) ∨ ∃ p j off, c = .el d p j off := by
  cases c <;> simp only [AV.rooted, Bool.and_eq_true, nbeq, decide_eq_true_eq] at h <;> first | (cases h; done) | skip
  · obtain ⟨rfl, _⟩ := h; exact .inl ⟨_, rfl⟩
  · obtain ⟨rfl, _⟩ := h; exact .inr (.inl ⟨_, _, rfl⟩)
  · obtain ⟨rfl, _⟩ := h; exact .inr (.inr ⟨_, _, _, rfl⟩)

theorem roots_get {i d : Nat} (h : (get st i).rooted d [] = true) : d ∈ opRoots st (.tmp i) := by
  rcases rooted_ref h with ⟨p, hg⟩ | ⟨p, off, hg⟩ | ⟨p, j, off, hg⟩ <;> simp [opRoots, hg]

theorem roots_loc {x : Operand} {s : Nat} {p : List Nat} (h : locOf st x = some (s, p)) : s ∈ opRoots st x := by
  cases x with
  | tmp i =>
    simp only [locOf] at h
    split at h
    · cases h; simp [opRoots]
    · cases h; simp [opRoots]
    · rename_i s' p' hg
      split at h
      · cases h; simp [opRoots, hg]
      · cases h; simp [opRoots, hg]
      · cases h
    · cases h
  | _ => simp [locOf] at h

theorem roots_ptr {x : Operand} {s off : Nat} {p : List Nat} (h : asPtr st x = some (s, p, off)) : s ∈ opRoots st x := by
  cases x with
  | tmp i =>
    simp only [asPtr] at h
    split at h
    · cases h; simp [opRoots]
    · rename_i s' p' hg
      split at h
      · cases h; simp [opRoots, hg]
      · cases h
    · rename_i s' p' off' hg; cases h; simp [opRoots, hg]
    · cases h
  | _ => simp [asPtr] at h

theorem guardA {α : Type} {c : Bool} {x : Option α} {y : α} (h : (bif c then x else none) = some y) : c = true ∧ x = some y := by
  cases c <;> simp_all

theorem guardC {α : Type} {c : Bool} {x z : Option α} {y : α} (h : (bif c then x else z) = some y) : x = some y ∨ z = some y := by
  cases c <;> simp_all

theorem roots_mov {t : TypeId} {x : Operand} {c : AV} {d : Nat} (h : movK P t st x some = some c) (hr : c.rooted d [] = true) : d ∈ opRoots st x := by
  unfold movK at h
  split at h
  · rename_i i
    split at h
    · cases h; cases hr
    · cases h
      simp only [AV.rooted, Bool.and_eq_true, nbeq, decide_eq_true_eq] at hr
      simp [opRoots, hr.1]
    · rename_i v hv
      cases h
      exact roots_get hr
  · cases h
    unfold constAV at hr
    split at hr
    · split at hr <;> cases hr
    · split at hr <;> cases hr
  · cases h

theorem roots_intOp {op : BinOp} {k : IntKind} {x y : Int} {c : AV} {d : Nat} (h : intOp op k x y some = some c) : c.rooted d [] = false := by
  cases op <;> simp only [intOp] at h <;> first
    | (cases h; done)
    | (cases h; rfl)
    | (rcases guardC h with h | h <;> cases h; rfl)

theorem roots_strOp {op : BinOp} {x y : ByteArray} {c : AV} {d : Nat} (h : strOp op x y some = some c) : c.rooted d [] = false := by
  cases op <;> simp only [strOp] at h <;> first
    | (cases h; done)
    | (cases h; rfl)
    | (rcases guardC h with h | h <;> cases h; rfl)

theorem roots_binQ {op : BinOp} {t : TypeId} {x y : Operand} {c : AV} {d : Nat} (h : binQ P op t st x y some = some c) : c.rooted d [] = false := by
  cases op <;> simp only [binQ] at h <;> (split at h) <;> first
    | (cases h; done)
    | (rcases guardC h with h | h <;> first | (cases h; done) | (cases h; rfl))
    | (split at h <;> first
        | (cases h; done)
        | (cases h; rfl)
        | exact roots_intOp h
        | exact roots_strOp h
        | (split at h <;> first | (cases h; done) | (cases h; rfl)))

theorem evQ_roots {c : AV} {d : Nat} (h : evQ P call o st some = some c) (hr : c.rooted d [] = true) : ∃ x ∈ o.op.operands, d ∈ opRoots st x := by
  cases hop : o.op <;> simp only [evQ, hop] at h
  case move x => exact ⟨x, by simp [Op.operands], roots_mov h hr⟩
  case assign x => exact ⟨x, by simp [Op.operands], roots_mov h hr⟩
  case binOp => rw [roots_binQ h] at hr; cases hr
  case unOp =>
    unfold unQ at h
    split at h
    · split at h <;> cases h <;> cases hr
    · cases h
  case load T addr =>
    refine ⟨addr, by simp [Op.operands], ?_⟩
    split at h
    · rename_i i
      split at h
      · split at h <;> cases h
        cases hr
      · split at h
        · rename_i s p off hp
          have key : ∀ p', c = .al s p' → d ∈ opRoots st (.tmp i) := by
            intro p' hc
            subst hc
            simp only [AV.rooted, Bool.and_eq_true, nbeq, decide_eq_true_eq] at hr
            rw [hr.1]; exact roots_ptr hp
          split at h
          · cases hA : isAggTy (tyOf P T) with
            | true =>
              simp only [hA, cond_true] at h
              obtain ⟨_, h⟩ := guardA h
              split at h <;> cases h
              cases hr
            | false =>
              simp only [hA, cond_false] at h
              obtain ⟨_, h⟩ := guardA h
              split at h
              · obtain ⟨_, h⟩ := guardA h; cases h; cases hr
              · obtain ⟨_, h⟩ := guardA h; exact key _ (Option.some.inj h).symm
              · exact key _ (Option.some.inj h).symm
              · cases h
          · cases h
        · split at h
          · split at h
            · split at h <;> cases h
              cases hr
            · cases h
          · cases h
    · cases h
  case nilCheck x =>
    refine ⟨x, by simp [Op.operands], ?_⟩
    split at h
    · rename_i i
      split at h
      · cases h
        simp only [AV.rooted, Bool.and_eq_true, nbeq, decide_eq_true_eq] at hr
        simp [opRoots, hr.1]
      · rename_i hg
        split at h
        · cases h; rw [← hg] at hr; exact roots_get hr
        · cases h
      · rename_i hg
        split at h
        · cases h; rw [← hg] at hr; exact roots_get hr
        · cases h
      · rename_i hg
        split at h
        · cases h; rw [← hg] at hr; exact roots_get hr
        · cases h
      · cases h; cases hr
      · cases h
    · cases h
  case fieldAddr T x f =>
    refine ⟨x, by simp [Op.operands], ?_⟩
    split at h
    · split at h
      · rename_i fd _
        cases h0 : Nat.beq (P.cellsOf fd.type) 0 with
        | true => simp only [h0, cond_true] at h; cases h
        | false =>
          simp only [h0, cond_false] at h
          split at h
          · rename_i s p off hp
            split at h
            · cases h
              simp only [AV.rooted, Bool.and_eq_true, nbeq, decide_eq_true_eq] at hr
              rw [hr.1]; exact roots_ptr hp
            · cases h
          · split at h
            · rename_i i _
              split at h
              · cases h; cases hr
              · rename_i s p j off hg
                split at h
                · cases h
                  simp only [AV.rooted, Bool.and_eq_true, nbeq, decide_eq_true_eq] at hr
                  simp [opRoots, hg, hr.1]
                · cases h
              · cases h
            · cases h
      · cases h
    · cases h
  case indexAddr T x ix =>
    refine ⟨x, by simp [Op.operands], ?_⟩
    split at h
    · split at h
      · rename_i s p hl
        split at h
        · obtain ⟨_, h⟩ := guardA h
          cases h
          simp only [AV.rooted, Bool.and_eq_true, nbeq, decide_eq_true_eq] at hr
          rw [hr.1]; exact roots_loc hl
        · cases h
      · split at h
        · obtain ⟨_, h⟩ := guardA h
          cases h; cases hr
        · cases h
    · cases h
  case call c' =>
    exfalso
    split at h
    · split at h
      · split at h
        · split at h <;> first | (cases h; done) | (cases h; cases hr)
        · split at h <;> first | (cases h; done) | (cases h; cases hr)
        · cases h
      · cases h
    · split at h
      · split at h <;> first | (cases h; done) | (cases h; cases hr)
      · cases h
    · split at h
      · split at h <;> first | (cases h; done) | (cases h; cases hr)
      · cases h
    · split at h
      · obtain ⟨_, h⟩ := guardA h
        obtain ⟨_, _, av, _, h, hav⟩ := retQ_inv h
        cases h
        rcases hav with ⟨x, _, rfl⟩ | ⟨rfl, _⟩ <;> cases hr
      · cases h
    · cases h
  case box E x =>
    exfalso
    split at h
    · rcases guardC h with h | h
      · cases h; cases hr
      · obtain ⟨_, h⟩ := guardA h; cases h; cases hr
    · cases h
  case pick a b c' =>
    exfalso
    split at h
    · split at h
      · rcases guardC h with h | h <;> split at h <;> first | (cases h; done) | (cases h; cases hr)
      · cases h
    · cases h
  case convert =>
    exfalso
    split at h
    · split at h <;> first | (cases h; done) | (cases h; cases hr)
    · split at h <;> first | (cases h; done) | (cases h; cases hr)
    · split at h
      · obtain ⟨_, h⟩ := guardA h; cases h; cases hr
      · cases h
    · split at h
      · obtain ⟨_, h⟩ := guardA h; cases h; cases hr
      · cases h
    · cases h
  all_goals exfalso
  all_goals (repeat' (first | (cases h; done) | (cases h; cases hr; done) | split at h | (obtain ⟨_, h⟩ := guardA h)))
end
end Go.V

namespace Go.V

theorem nth_cons_succ {α : Type} (d : α) (x : α) (l : List α) (n : Nat) : nth d (x :: l) (n + 1) = nth d l n := rfl

/-- 'b' holds the numbers of what stands before each operation. -/
def BefOk (ops : Array Oper) (b : List Nat) : Prop := ∀ i o, ops[i]? = some o → nth 0 b i = CheckFast.one (fun t => bif decide (t < i) then nth 0 b t else 0) o

theorem befK_ex {α : Type} (K : List Nat → Option α) : ∀ (l : List Oper) (j : Nat) (acc : List Nat), acc.length = j → ∃ b, befK K l j acc = K b ∧ (∀ t, t < j → nth 0 b t = nth 0 acc (j - 1 - t)) ∧
    ∀ i o, l[i]? = some o → nth 0 b (j + i) = CheckFast.one (fun t => bif decide (t < j + i) then nth 0 b t else 0) o
  | [], j, acc, hl => by
    refine ⟨acc.reverse, rfl, fun t ht => ?_, fun i o h => by simp at h⟩
    rw [nth_eq, nth_eq, List.getElem?_reverse (by omega), hl]
  | o :: rest, j, acc, hl => by
    simp only [befK, CheckFast.force_eq]
    obtain ⟨b, h1, h2, h3⟩ := befK_ex K rest (j + 1) (CheckFast.one (fun i => bif decide (i < j) then nth 0 acc (j - 1 - i) else 0) o :: acc) (by simp [hl])
    have hlt : ∀ t, t < j → nth 0 b t = nth 0 acc (j - 1 - t) := by
      intro t ht
      rw [h2 t (by omega)]
      have : j + 1 - 1 - t = (j - 1 - t) + 1 := by omega
      rw [this, nth_cons_succ]
    have hj : nth 0 b j = CheckFast.one (fun i => bif decide (i < j) then nth 0 acc (j - 1 - i) else 0) o := by
      rw [h2 j (by omega)]
      have : j + 1 - 1 - j = 0 := by omega
      rw [this]; rfl
    refine ⟨b, h1, hlt, fun i o' ho' => ?_⟩
    cases i with
    | zero =>
      simp at ho'
      subst ho'
      rw [Nat.add_zero, hj]
      congr 1
      funext t
      by_cases ht : t < j
      · simp [ht, hlt t ht]
      · simp [ht]
    | succ i =>
      have := h3 i o' (by simpa using ho')
      rw [show j + 1 + i = j + (i + 1) by omega] at this
      exact this

theorem one_testBit {look : Nat → Nat} {o : Oper} {k : Nat} (h : (CheckFast.one look o).testBit k = true) : ∃ e ∈ o.after, Region.binds .any e = true ∧ (e.on = k ∨ (look e.on).testBit k = true) := by
  have key : ∀ (l : List Edge) (s : Nat), (l.foldl (fun s e => if Region.binds .any e then s ||| 2 ^ e.on ||| look e.on else s) s).testBit k = true → s.testBit k = true ∨ ∃ e ∈ l, Region.binds .any e = true ∧ (e.on = k ∨ (look e.on).testBit k = true) := by
    intro l
    induction l with
    | nil => intro s h; exact .inl h
    | cons e l ih =>
      intro s h
      simp only [List.foldl_cons] at h
      rcases ih _ h with h | ⟨e', he', h'⟩
      · split at h
        · rename_i hb
          rw [Nat.testBit_or, Nat.testBit_or] at h
          simp only [Bool.or_eq_true] at h
          rcases h with (h | h) | h
          · exact .inl h
          · rw [Nat.testBit_two_pow] at h
            exact .inr ⟨e, List.mem_cons_self, hb, .inl (by simpa using h)⟩
          · exact .inr ⟨e, List.mem_cons_self, hb, .inr h⟩
        · exact .inl h
      · exact .inr ⟨e', List.mem_cons_of_mem _ he', h'⟩
  unfold CheckFast.one at h
  rw [← Array.foldl_toList] at h
  rcases key _ _ h with h | ⟨e, he, h'⟩
  · simp at h
  · exact ⟨e, Array.mem_toList_iff.1 he, h'⟩

/-- The set of those that have been carried out. -/
def Closed (ops : Array Oper) (X : Nat → Bool) : Prop := ∀ i o, X i = true → ops[i]? = some o → ∀ e ∈ o.after, Region.binds .any e = true → X e.on = true

theorem before_closed {ops : Array Oper} {b : List Nat} (hb : BefOk ops b) {X : Nat → Bool} (hX : Closed ops X) : ∀ (i : Nat) (o : Oper) (k : Nat), ops[i]? = some o → (∀ e ∈ o.after, Region.binds .any e = true → X e.on = true) → (nth 0 b i).testBit k = true → X k = true := by
  intro i
  induction i using Nat.strongRecOn with
  | _ i ih =>
    intro o k ho hready hk
    rw [hb i o ho] at hk
    obtain ⟨e, he, hbind, h | h⟩ := one_testBit hk
    · rw [← h]; exact hready e he hbind
    · by_cases hlt : e.on < i
      · simp only [hlt, decide_true, cond_true] at h
        have hXe := hready e he hbind
        cases hoe : ops[e.on]? with
        | none =>
          -- no such operation: no number
          exfalso
          have : ops.size ≤ e.on := by
            rcases Nat.lt_or_ge e.on ops.size with h' | h'
            · rw [Array.getElem?_eq_getElem h'] at hoe; cases hoe
            · exact h'
          have hi := (Array.getElem?_eq_some_iff.1 ho).1
          omega
        | some oe => exact ih e.on hlt oe k hoe (hX e.on oe hXe hoe) h
      · simp only [hlt, decide_false, cond_false] at h
        simp at h

theorem backEdges_spec : ∀ {j : Nat} {l : List Oper}, backEdges j l = true → ∀ i o, l[i]? = some o → ∀ e ∈ o.after, Region.binds .any e = true → e.on < j + i
  | _, [], _, i, o, h => by simp at h
  | j, x :: l, h, i, o, ho => by
    simp only [backEdges, Bool.and_eq_true, List.all_eq_true, Bool.or_eq_true, Bool.not_eq_true', decide_eq_true_eq] at h
    obtain ⟨h1, h2⟩ := h
    intro e he hb
    cases i with
    | zero =>
      simp at ho; subst ho
      rcases h1 e (Array.mem_toList_iff.2 he) with h' | h'
      · rw [hb] at h'; cases h'
      · simpa using h'
    | succ i =>
      have := backEdges_spec h2 i o (by simpa using ho) e he hb
      omega

theorem distinct_spec : ∀ {l : List Nat}, distinct l = true → l.Nodup
  | [], _ => List.nodup_nil
  | x :: l, h => by
    simp only [distinct, Bool.and_eq_true, Bool.not_eq_true', List.any_eq_false, nbeq, decide_eq_true_eq] at h
    refine List.nodup_cons.2 ⟨fun hm => h.1 x hm rfl, distinct_spec h.2⟩

/-- Each slot is written by one operation. -/
def DstUniq (ops : Array Oper) : Prop := ∀ (i k d : Nat), (ops[i]?).bind (·.dst) = some d → (ops[k]?).bind (·.dst) = some d → i = k

theorem dst_uniq_list : ∀ {l : List Oper}, (l.filterMap (·.dst)).Nodup → ∀ (i k d : Nat), (l[i]?).bind (·.dst) = some d → (l[k]?).bind (·.dst) = some d → i = k
  | [], _, i, k, d, h, _ => by simp at h
  | x :: l, hn, i, k, d, hi, hk => by
    have hmem : ∀ (j : Nat), (l[j]?).bind (·.dst) = some d → d ∈ l.filterMap (·.dst) := by
      intro j hj
      simp only [Option.bind_eq_some_iff] at hj
      obtain ⟨o, ho, hd⟩ := hj
      exact List.mem_filterMap.2 ⟨o, List.mem_of_getElem? ho, hd⟩
    have hn' : (l.filterMap (·.dst)).Nodup ∧ (x.dst = some d → d ∉ l.filterMap (·.dst)) := by
      rw [List.filterMap_cons] at hn
      split at hn
      · rename_i h0; exact ⟨hn, fun h => by rw [h0] at h; cases h⟩
      · rename_i d' h0
        have := List.nodup_cons.1 hn
        refine ⟨this.2, fun h => ?_⟩
        rw [h0] at h; cases h; exact this.1
    cases i with
    | zero =>
      cases k with
      | zero => rfl
      | succ k =>
        simp at hi hk
        exact absurd (hmem k (by simpa using hk)) (hn'.2 hi)
    | succ i =>
      cases k with
      | zero =>
        simp at hi hk
        exact absurd (hmem i (by simpa using hi)) (hn'.2 hk)
      | succ k =>
        simp at hi hk
        rw [dst_uniq_list hn'.1 i k d (by simpa using hi) (by simpa using hk)]

theorem dst_uniq {ops : Array Oper} (h : distinct (ops.toList.filterMap (·.dst)) = true) : DstUniq ops := by
  intro i k d hi hk
  refine dst_uniq_list (distinct_spec h) i k d ?_ ?_
  · rw [Array.getElem?_toList]; exact hi
  · rw [Array.getElem?_toList]; exact hk

end Go.V

namespace Go.V

def dstAt (ops : Array Oper) (k : Nat) : Option Nat := (ops[k]?).bind (·.dst)
def ownerOf (ops : Array Oper) (s : Nat) : Option Nat := (List.range ops.size).find? fun k => decide (dstAt ops k = some s)

theorem owner_dst {ops : Array Oper} {k s : Nat} (h : ownerOf ops s = some k) : dstAt ops k = some s := by
  have := List.find?_some h
  simpa using this

theorem dstAt_lt {ops : Array Oper} {k s : Nat} (h : dstAt ops k = some s) : k < ops.size := by
  unfold dstAt at h
  rcases Nat.lt_or_ge k ops.size with h' | h'
  · exact h'
  · rw [Array.getElem?_eq_none h'] at h; cases h

theorem owner_of {ops : Array Oper} (hU : DstUniq ops) {k s : Nat} (h : dstAt ops k = some s) : ownerOf ops s = some k := by
  cases ho : ownerOf ops s with
  | none =>
    unfold ownerOf at ho
    rw [List.find?_eq_none] at ho
    have := ho k (List.mem_range.2 (dstAt_lt h))
    simp [h] at this
  | some k' => rw [hU k' k s (owner_dst ho) h]

/-- A state behind the operations X, given what each of them lays. -/
def Fs (ops : Array Oper) (B : St) (c : Nat → AV) (X : Nat → Bool) : St :=
  (List.range B.length).map fun s => match ownerOf ops s with | some k => bif X k then c k else get B s | none => get B s

theorem length_Fs (ops : Array Oper) (B : St) (c : Nat → AV) (X : Nat → Bool) : (Fs ops B c X).length = B.length := by simp [Fs]

theorem get_ge {st : St} {s : Nat} (h : st.length ≤ s) : get st s = .dead := by rw [get, nth_eq, List.getElem?_eq_none h]; rfl

theorem get_Fs {ops : Array Oper} {B : St} {c : Nat → AV} {X : Nat → Bool} {s : Nat} (h : s < B.length) : get (Fs ops B c X) s = match ownerOf ops s with | some k => bif X k then c k else get B s | none => get B s := by
  rw [get, nth_eq]
  simp only [Fs, List.getElem?_map, List.getElem?_range h, Option.map_some, Option.getD_some]

theorem st_ext {st st' : St} (hl : st.length = st'.length) (h : ∀ s, s < st.length → get st s = get st' s) : st = st' := by
  apply List.ext_getElem?
  intro i
  by_cases hi : i < st.length
  · have := h i hi
    rw [get, get, nth_eq, nth_eq, List.getElem?_eq_getElem hi, List.getElem?_eq_getElem (hl ▸ hi)] at this
    rw [List.getElem?_eq_getElem hi, List.getElem?_eq_getElem (hl ▸ hi)]
    simpa using this
  · rw [List.getElem?_eq_none (by omega), List.getElem?_eq_none (by omega)]

theorem Fs_congr {ops : Array Oper} {B : St} {c : Nat → AV} {X X' : Nat → Bool} (h : ∀ k, k < ops.size → X k = X' k) : Fs ops B c X = Fs ops B c X' := by
  refine st_ext (by simp [Fs]) (fun s hs => ?_)
  rw [length_Fs] at hs
  rw [get_Fs hs, get_Fs hs]
  cases ho : ownerOf ops s with
  | none => rfl
  | some k => simp only; rw [h k (dstAt_lt (owner_dst ho))]

theorem Fs_empty {ops : Array Oper} {B : St} {c : Nat → AV} {X : Nat → Bool} (h : ∀ k, k < ops.size → X k = false) : Fs ops B c X = B := by
  refine st_ext (by simp [Fs]) (fun s hs => ?_)
  rw [length_Fs] at hs
  rw [get_Fs hs]
  cases ho : ownerOf ops s with
  | none => rfl
  | some k => simp only; rw [h k (dstAt_lt (owner_dst ho))]; rfl

theorem Fs_add {ops : Array Oper} (hU : DstUniq ops) {B : St} {c : Nat → AV} {X : Nat → Bool} {i : Nat} (hnr : ∀ d, dstAt ops i = some d → d < B.length ∧ ∀ r, (get (Fs ops B c X) r).rooted d [] = false) :
    putD (dstAt ops i) (c i) (Fs ops B c X) = Fs ops B c (fun k => X k || decide (k = i)) := by
  cases hd : dstAt ops i with
  | none =>
    simp only [putD]
    refine st_ext (by simp [Fs]) (fun s hs => ?_)
    rw [length_Fs] at hs
    rw [get_Fs hs, get_Fs hs]
    cases ho : ownerOf ops s with
    | none => rfl
    | some k =>
      have hk : k ≠ i := by
        rintro rfl
        have := owner_dst ho
        rw [hd] at this; cases this
      simp [hk]
  | some d =>
    obtain ⟨hlt, hr⟩ := hnr d hd
    simp only [putD]
    refine st_ext (by rw [length_put]; simp [Fs]) (fun s hs => ?_)
    rw [length_put, length_Fs] at hs
    rw [get_put, length_Fs, hr s, cond_false]
    rw [get_Fs hs, get_Fs hs]
    by_cases hsd : s = d
    · subst hsd
      rw [if_pos ⟨rfl, hlt⟩, owner_of hU hd]
      simp
    · rw [if_neg (fun hh => hsd hh.1)]
      cases ho : ownerOf ops s with
      | none => rfl
      | some k =>
        have hk : k ≠ i := by
          rintro rfl
          have := owner_dst ho
          rw [hd] at this
          exact hsd (Option.some.inj this).symm
        simp [hk]

theorem anyRooted_false {d : Nat} {st : St} (h : anyRooted d st = false) (r : Nat) : (get st r).rooted d [] = false := by
  rcases Nat.lt_or_ge r st.length with h' | h'
  · have hm : get st r ∈ st := by
      rw [get, nth_eq, List.getElem?_eq_getElem h']; exact List.getElem_mem h'
    simp only [anyRooted, List.any_eq_false] at h
    have := h _ hm
    cases hb : (get st r).rooted d [] with
    | true => exact absurd hb this
    | false => rfl
  · rw [get_ge h']; rfl

def GuardIs (N : Nat) (ops : Array Oper) (s : St) (o : Oper) (w : Bool) : Prop :=
  match o.guard with
  | none => w = true
  | some (j, want) => ∃ d, dstAt ops j = some d ∧ d < N ∧ ((∃ v, get s d = .o (.pv .bool v) ∧ w = (v.toBool == want)) ∨ (get s d = .tup [] ∧ w = false))

def EnvOk (N : Nat) (ops : Array Oper) (env : List (Nat × Bool)) (m : Nat) (s : St) : Prop :=
  ∀ j bv, (j, bv) ∈ env → ∃ d v, dstAt ops j = some d ∧ d < N ∧ j < m ∧ get s d = .o (.pv .bool v) ∧ v.toBool = bv

theorem envGet_mem : ∀ {env : List (Nat × Bool)} {j : Nat} {b : Bool}, envGet env j = some b → (j, b) ∈ env
  | [], _, _, h => by simp [envGet] at h
  | (k, b') :: r, j, b, h => by
    simp only [envGet] at h
    cases hk : Nat.beq k j with
    | true =>
      rw [hk] at h
      have := Nat.eq_of_beq_eq_true hk
      subst this
      simp at h; subst h
      exact List.mem_cons_self
    | false =>
      rw [hk] at h
      exact List.mem_cons_of_mem _ (envGet_mem h)

section
variable {P : Program} {N : Nat} {st st' : St} {a : Act} {hv : List Value} {w w' : World} {g g' : G} {r : List AO × List AO} {o : Oper} {Q : Exit → Act → World → Prop} {call : CallF} {ops : Array Oper} {b : List Nat}

theorem askG_spec {env : List (Nat × Bool)} {i : Nat} {k : List (Nat × Bool) → Bool → R} (hE : EnvOk N ops env i st) (hj : ∀ j want, o.guard = some (j, want) → j < i) (h : askG N ops env st o k = some r) :
    ∃ env' wt, k env' wt = some r ∧ GuardIs N ops st o wt ∧ EnvOk N ops env' i st := by
  unfold askG at h
  split at h
  · rename_i hg
    exact ⟨env, true, h, by unfold GuardIs; rw [hg], hE⟩
  · rename_i j want hg
    split at h
    · rename_i bv hb
      obtain ⟨d, v, h1, h2, h3, h4, h5⟩ := hE j bv (envGet_mem hb)
      refine ⟨env, _, h, ?_, hE⟩
      unfold GuardIs; rw [hg]
      refine ⟨d, h1, h2, .inl ⟨v, h4, ?_⟩⟩
      rw [h5]; cases bv <;> cases want <;> rfl
    · split at h
      · rename_i d hd
        split at h
        · rename_i v hgd
          obtain ⟨hdN, h⟩ := guardA h
          have hdN := of_decide_eq_true hdN
          have hnew : ∀ bv, v.toBool = bv → EnvOk N ops ((j, bv) :: env) i st := by
            intro bv hbv j' b' hm
            rcases List.mem_cons.1 hm with hm | hm
            · cases hm
              exact ⟨d, v, hd, hdN, hj j want hg, hgd, hbv⟩
            · exact hE j' b' hm
          cases hvb : v.toBool with
          | true =>
            rw [hvb] at h
            refine ⟨_, _, h, ?_, hnew true hvb⟩
            unfold GuardIs; rw [hg]
            exact ⟨d, hd, hdN, .inl ⟨v, hgd, by rw [hvb]; cases want <;> rfl⟩⟩
          | false =>
            rw [hvb] at h
            refine ⟨_, _, h, ?_, hnew false hvb⟩
            unfold GuardIs; rw [hg]
            exact ⟨d, hd, hdN, .inl ⟨v, hgd, by rw [hvb]; cases want <;> rfl⟩⟩
        · rename_i hgd
          obtain ⟨hdN, h⟩ := guardA h
          have hdN := of_decide_eq_true hdN
          refine ⟨env, false, h, ?_, hE⟩
          unfold GuardIs; rw [hg]
          exact ⟨d, hd, hdN, .inr ⟨hgd, rfl⟩⟩
        · cases h
      · cases h

theorem drawOk_guard {i : Nat} (h : drawOk P ops b i o st = true) : ∀ j want, o.guard = some (j, want) → j < i ∧ ordered b i j = true := by
  intro j want hg
  unfold drawOk at h
  rw [hg] at h
  simp only [Bool.and_eq_true] at h
  exact ⟨of_decide_eq_true h.1.1, h.1.2⟩

theorem drawOk_quiet {i : Nat} (h : drawOk P ops b i o st = true) (hl : isLoud P o st = false) :
    (∀ d, o.dst = some d → anyRooted d st = false) ∧ ∀ k, k < ops.size → k ≠ i → ordered b i k = true ∨ ∀ d, dstAt ops k = some d → ∀ x ∈ o.op.operands, d ∉ opRoots st x := by
  unfold drawOk at h
  rw [hl] at h
  simp only [cond_false, Bool.and_eq_true, List.all_eq_true, List.mem_range] at h
  obtain ⟨_, h1, h2⟩ := h
  refine ⟨fun d hd => ?_, fun k hk hki => ?_⟩
  · rw [hd] at h1; simpa using h1
  · have := h2 k hk
    simp only [Bool.or_eq_true, nbeq, decide_eq_true_eq] at this
    rcases this with h3 | h3 | h3
    · exact absurd h3 hki
    · exact .inl h3
    · refine .inr (fun d hd x hx hm => ?_)
      unfold dstAt at hd
      rw [hd] at h3
      simp only [Bool.not_eq_true', List.any_eq_false, nbeq, decide_eq_true_eq] at h3
      exact h3 d (List.mem_flatMap.2 ⟨x, Array.mem_toList_iff.2 hx, hm⟩) rfl

theorem drawOk_loud {i : Nat} (h : drawOk P ops b i o st = true) (hl : isLoud P o st = true) : ∀ k, k < ops.size → k ≠ i → ordered b i k = true := by
  unfold drawOk at h
  rw [hl] at h
  simp only [cond_true, Bool.and_eq_true, List.all_eq_true, List.mem_range] at h
  intro k hk hki
  have := h.2 k hk
  simp only [Bool.or_eq_true, nbeq, decide_eq_true_eq] at this
  rcases this with h3 | h3
  · exact absurd h3 hki
  · exact h3

/-- A quiet operation's step. -/
def Quiet (P : Program) (call : CallF) (N : Nat) (ops : Array Oper) (b : List Nat) (i : Nat) (s s' : St) (c : AV) : Prop :=
  ∃ o, ops[i]? = some o ∧ dstOk N o = true ∧ drawOk P ops b i o s = true ∧ isLoud P o s = false ∧ s' = putD o.dst c s ∧
    ((GuardIs N ops s o false ∧ c = .tup []) ∨ (GuardIs N ops s o true ∧ evQ P call o s some = some c))

/-- A loud operation's. -/
def Loud (P : Program) (call : CallF) (N : Nat) (ops : Array Oper) (b : List Nat) (e : Nat) (s : St) (env : List (Nat × Bool)) (K : St → R) (r : List AO × List AO) (rest : List Nat) : Prop :=
  ∃ o wt, ops[e]? = some o ∧ dstOk N o = true ∧ drawOk P ops b e o s = true ∧ isLoud P o s = true ∧ GuardIs N ops s o wt ∧
    (if wt = true then evL P call o (knownAll ops env s) (fun st => evOpsD P call N ops b rest [] (killDsts ops st) K) = some r
     else evOpsD P call N ops b rest [] (killDsts ops (putD o.dst (.tup []) (knownAll ops env s))) K = some r)

theorem env_putD (hU : DstUniq ops) {env : List (Nat × Bool)} {i : Nat} (hE : EnvOk N ops env i st) (ho : ops[i]? = some o) (c : AV) : EnvOk N ops env (i + 1) (putD o.dst c st) := by
  intro j bv hm
  obtain ⟨d, v, h1, h2, h3, h4, h5⟩ := hE j bv hm
  refine ⟨d, v, h1, h2, by omega, ?_, h5⟩
  cases hd : o.dst with
  | none => exact h4
  | some d' =>
    have hne : d ≠ d' := by
      rintro rfl
      have := hU j i d h1 (by simp [ho, hd])
      omega
    simp only [putD]
    rw [get_put, if_neg (fun hh => hne hh.1), h4]; rfl

theorem seg_of {K : St → R} (hU : DstUniq ops) : ∀ (len m : Nat) (env : List (Nat × Bool)) (st : St), m + len = ops.size → EnvOk N ops env m st → evOpsD P call N ops b (List.range' m len) env st K = some r →
    ∃ (e : Nat) (c : Nat → AV) (S : Nat → St) (env' : List (Nat × Bool)), m ≤ e ∧ e ≤ ops.size ∧ S m = st ∧ (∀ i, m ≤ i → i < e → Quiet P call N ops b i (S i) (S (i + 1)) (c i)) ∧ EnvOk N ops env' e (S e) ∧
      ((e = ops.size ∧ K (knownAll ops env' (S e)) = some r) ∨ (e < ops.size ∧ Loud P call N ops b e (S e) env' K r (List.range' (e + 1) (ops.size - (e + 1)))))
  | 0, m, env, st, hm, hE, h => by
    simp only [List.range'_zero, evOpsD] at h
    exact ⟨m, fun _ => .dead, fun _ => st, env, Nat.le_refl _, by omega, rfl, fun i h1 h2 => by omega, hE, .inl ⟨by omega, h⟩⟩
  | len + 1, m, env, st, hm, hE, h => by
    simp only [List.range'_succ, evOpsD] at h
    split at h
    · cases h
    · rename_i o ho
      obtain ⟨hc, h⟩ := guardA h
      simp only [Bool.and_eq_true] at hc
      obtain ⟨hok, hdr⟩ := hc
      obtain ⟨env', wt, h, hgi, hE'⟩ := askG_spec hE (fun j want hg => (drawOk_guard hdr j want hg).1) h
      cases hl : isLoud P o st with
      | true =>
        simp only [hl, cond_true] at h
        refine ⟨m, fun _ => .dead, fun _ => st, env', Nat.le_refl _, by omega, rfl, fun i h1 h2 => by omega, hE', .inr ⟨by omega, o, wt, ho, hok, hdr, hl, hgi, ?_⟩⟩
        have : ops.size - (m + 1) = len := by omega
        rw [this]
        cases wt with
        | true => rw [if_pos rfl]; simpa using h
        | false => rw [if_neg (by decide)]; simpa using h
      | false =>
        simp only [hl, cond_false] at h
        have step : ∀ cm : AV, ((GuardIs N ops st o false ∧ cm = .tup []) ∨ (GuardIs N ops st o true ∧ evQ P call o st some = some cm)) → evOpsD P call N ops b (List.range' (m + 1) len) env' (putD o.dst cm st) K = some r →
            ∃ (e : Nat) (c : Nat → AV) (S : Nat → St) (env' : List (Nat × Bool)), m ≤ e ∧ e ≤ ops.size ∧ S m = st ∧ (∀ i, m ≤ i → i < e → Quiet P call N ops b i (S i) (S (i + 1)) (c i)) ∧ EnvOk N ops env' e (S e) ∧
              ((e = ops.size ∧ K (knownAll ops env' (S e)) = some r) ∨ (e < ops.size ∧ Loud P call N ops b e (S e) env' K r (List.range' (e + 1) (ops.size - (e + 1))))) := by
          intro cm hcm hk
          obtain ⟨e, c, S, env2, q1, q2, q3, q4, q5, q6⟩ := seg_of hU len (m + 1) env' _ (by omega) (env_putD hU hE' ho cm) hk
          have hSne : ∀ i, m + 1 ≤ i → (if i = m then st else S i) = S i := fun i hi => by rw [if_neg (by omega)]
          refine ⟨e, fun i => if i = m then cm else c i, fun i => if i = m then st else S i, env2, by omega, q2, by simp, fun i h1 h2 => ?_, by simp only [hSne e q1]; exact q5, by simp only [hSne e q1]; exact q6⟩
          show Quiet P call N ops b i (if i = m then st else S i) (if i + 1 = m then st else S (i + 1)) (if i = m then cm else c i)
          by_cases him : i = m
          · subst him
            rw [if_pos rfl, if_pos rfl, hSne (i + 1) (Nat.le_refl _), q3]
            exact ⟨o, ho, hok, hdr, hl, rfl, hcm⟩
          · rw [if_neg him, if_neg him, hSne (i + 1) (by omega)]
            exact q4 i (by omega) h2
        cases wt with
        | true =>
          simp only [cond_true] at h
          rw [evQ_bind] at h
          simp only [Option.bind_eq_some_iff] at h
          obtain ⟨cm, hcm, h⟩ := h
          exact step cm (.inr ⟨hgi, hcm⟩) h
        | false =>
          simp only [cond_false] at h
          exact step (.tup []) (.inl ⟨hgi, rfl⟩) h

theorem knownAll_eq (h : Good P N st a hv w g) : ∀ {env : List (Nat × Bool)} {m : Nat}, EnvOk N ops env m st → knownAll ops env st = st
  | [], _, _ => rfl
  | (j, bv) :: env, m, hE => by
    obtain ⟨d, v, h1, h2, h3, h4, h5⟩ := hE j bv List.mem_cons_self
    have ih := knownAll_eq h (env := env) (m := m) (fun j' b' hm => hE j' b' (List.mem_cons_of_mem _ hm))
    unfold dstAt at h1
    simp only [knownAll, h1, ih]
    exact h.known h2 h4 h5

theorem GuardIs.wanted (h : Good P N st a hv w g) {wt : Bool} (hg : GuardIs N ops st o wt) : Region.wanted o (yielded ops a.tmps) = wt := by
  unfold GuardIs at hg
  split at hg
  · rename_i h0; rw [hg]; exact wanted_none h0 _
  · rename_i j want h0
    obtain ⟨d, h1, h2, ⟨v, h3, h4⟩ | ⟨h3, h4⟩⟩ := hg
    · rw [h4]
      exact wanted_some h0 (h.yields h1 h2 h3)
    · rw [h4]
      exact wanted_un h0 (h.unyields h1 h2 h3)

end
end Go.V

namespace Go.V

def Lst (ops : Array Oper) (listed : Array Bool) (X : Nat → Bool) : Prop := listed.size = ops.size ∧ ∀ k, k < ops.size → listed[k]? = some (X k)

def cnt (ops : Array Oper) (X : Nat → Bool) : Nat := ((List.range ops.size).filter fun k => !X k).length

theorem filter_le {p q : Nat → Bool} : ∀ (l : List Nat), (∀ k, q k = true → p k = true) → (l.filter q).length ≤ (l.filter p).length
  | [], _ => Nat.le_refl _
  | x :: l, h => by
    have ih := filter_le l h
    simp only [List.filter_cons]
    cases hq : q x with
    | true => rw [h x hq]; simp; exact ih
    | false =>
      cases p x with
      | true => simp; omega
      | false => simpa using ih

theorem filter_lt {p q : Nat → Bool} {i : Nat} : ∀ (l : List Nat), (∀ k, q k = true → p k = true) → i ∈ l → p i = true → q i = false → (l.filter q).length < (l.filter p).length
  | [], _, hm, _, _ => by simp at hm
  | x :: l, h, hm, hp, hq => by
    simp only [List.filter_cons]
    by_cases hx : x = i
    · subst hx
      rw [hp, hq]
      have := filter_le (p := p) (q := q) l h
      simp; omega
    · have hm' : i ∈ l := by
        rcases List.mem_cons.1 hm with hh | hh
        · exact absurd hh.symm hx
        · exact hh
      have ih := filter_lt l h hm' hp hq
      cases hqx : q x with
      | true => rw [h x hqx]; simp; exact ih
      | false =>
        cases p x with
        | true => simp; omega
        | false => simpa using ih

theorem ready_iff {ops : Array Oper} {listed : Array Bool} {X : Nat → Bool} (hL : Lst ops listed X) (hB : ∀ i o, ops[i]? = some o → ∀ e ∈ o.after, Region.binds .any e = true → e.on < i) (i : Nat) :
    i ∈ Region.ready .any ops listed ↔ ∃ o, ops[i]? = some o ∧ X i = false ∧ ∀ e ∈ o.after, Region.binds .any e = true → X e.on = true := by
  obtain ⟨hs, hx⟩ := hL
  unfold Region.ready
  rw [List.mem_filter, List.mem_range]
  constructor
  · rintro ⟨hi, h⟩
    simp only [Bool.and_eq_true, Bool.not_eq_true'] at h
    obtain ⟨h1, h2⟩ := h
    have ho := Array.getElem?_eq_getElem hi
    rw [ho] at h2
    simp only [Option.map_some, Option.getD_some, Array.all_eq_true_iff_forall_mem, Bool.or_eq_true, Bool.not_eq_true'] at h2
    refine ⟨_, ho, ?_, fun e he hb => ?_⟩
    · have := hx i hi
      rw [Array.getD_eq_getD_getElem?, this] at h1; simpa using h1
    · rcases h2 e he with h3 | h3
      · rw [hb] at h3; cases h3
      · have hlt := hB i _ ho e he hb
        have := hx e.on (by omega)
        rw [Array.getD_eq_getD_getElem?, this] at h3; simpa using h3
  · rintro ⟨o, ho, h1, h2⟩
    have hi := (Array.getElem?_eq_some_iff.1 ho).1
    refine ⟨hi, ?_⟩
    simp only [Bool.and_eq_true, Bool.not_eq_true', ho, Option.map_some, Option.getD_some, Array.all_eq_true_iff_forall_mem, Bool.or_eq_true]
    refine ⟨by rw [Array.getD_eq_getD_getElem?, hx i hi]; simpa using h1, fun e he => ?_⟩
    cases hb : Region.binds .any e with
    | false => exact .inl rfl
    | true =>
      have hlt := hB i o ho e he hb
      exact .inr (by rw [Array.getD_eq_getD_getElem?, hx e.on (by omega)]; simpa using h2 e he hb)

theorem Lst.set {ops : Array Oper} {listed : Array Bool} {X : Nat → Bool} (hL : Lst ops listed X) (i : Nat) : Lst ops (listed.setIfInBounds i true) (fun k => X k || decide (k = i)) := by
  obtain ⟨hs, hx⟩ := hL
  refine ⟨by simp [hs], fun k hk => ?_⟩
  rw [Array.getElem?_setIfInBounds]
  by_cases h : i = k
  · subst h
    rw [if_pos rfl, if_pos (by omega)]; simp
  · rw [if_neg h, hx k hk]; simp [Ne.symm h]

theorem Lst.congr {ops : Array Oper} {listed : Array Bool} {X Y : Nat → Bool} (hL : Lst ops listed X) (h : ∀ k, k < ops.size → X k = Y k) : Lst ops listed Y :=
  ⟨hL.1, fun k hk => by rw [hL.2 k hk, h k hk]⟩

theorem cnt_congr {ops : Array Oper} {X Y : Nat → Bool} (h : ∀ k, k < ops.size → X k = Y k) : cnt ops X = cnt ops Y := by
  unfold cnt
  congr 1
  apply List.filter_congr
  intro k hk
  rw [h k (List.mem_range.1 hk)]

theorem cnt_lt {ops : Array Oper} {X : Nat → Bool} {i : Nat} (hi : i < ops.size) (hX : X i = false) : cnt ops (fun k => X k || decide (k = i)) < cnt ops X := by
  refine filter_lt _ (fun k hk => ?_) (List.mem_range.2 hi) (by simp [hX]) (by simp)
  simp at hk
  simp [hk.1]

theorem least {m e : Nat} {X : Nat → Bool} (h : ¬ ∀ k, m ≤ k → k < e → X k = true) : ∃ i, m ≤ i ∧ i < e ∧ X i = false ∧ ∀ k, m ≤ k → k < i → X k = true := by
  have : ∃ i, m ≤ i ∧ i < e ∧ X i = false := by
    apply Classical.byContradiction
    intro hn
    apply h
    intro k h1 h2
    cases hX : X k with
    | true => rfl
    | false => exact absurd ⟨k, h1, h2, hX⟩ hn
  obtain ⟨i, h1, h2, h3⟩ := this
  induction i using Nat.strongRecOn with
  | _ i ih =>
    by_cases hall : ∀ k, m ≤ k → k < i → X k = true
    · exact ⟨i, h1, h2, h3, hall⟩
    · have : ∃ k, m ≤ k ∧ k < i ∧ X k = false := by
        apply Classical.byContradiction
        intro hn
        apply hall
        intro k q1 q2
        cases hX : X k with
        | true => rfl
        | false => exact absurd ⟨k, q1, q2, hX⟩ hn
      obtain ⟨k, q1, q2, q3⟩ := this
      exact ih k q2 q1 (by omega) q3

section
variable {P : Program} {N : Nat} {st st' : St} {a : Act} {hv : List Value} {w w' : World} {g g' : G} {r : List AO × List AO} {o : Oper} {Q : Exit → Act → World → Prop} {call : CallF} {ops : Array Oper} {b : List Nat}

/-- What a segment behind index m is. -/
structure Seg (P : Program) (call : CallF) (N : Nat) (ops : Array Oper) (b : List Nat) (m e : Nat) (c : Nat → AV) (S : Nat → St) : Prop where
  me : m ≤ e
  en : e ≤ ops.size
  step : ∀ i, m ≤ i → i < e → Quiet P call N ops b i (S i) (S (i + 1)) (c i)
  base : ∀ d k r, dstAt ops k = some d → (get (S m) r).rooted d [] = false
  len : N ≤ (S m).length

theorem dstAt_of {i : Nat} (ho : ops[i]? = some o) : dstAt ops i = o.dst := by simp [dstAt, ho]

theorem Seg.eq {m e : Nat} {c : Nat → AV} {S : Nat → St} (hS : Seg P call N ops b m e c S) (hU : DstUniq ops) : ∀ i, m ≤ i → i ≤ e → S i = Fs ops (S m) c (fun k => decide (m ≤ k) && decide (k < i)) := by
  intro i hmi
  induction i with
  | zero =>
    intro _
    have : m = 0 := by omega
    subst this
    exact (Fs_empty (fun k _ => by simp)).symm
  | succ i ih =>
    intro hie
    by_cases him : m = i + 1
    · subst him
      exact (Fs_empty (fun k _ => by simp <;> omega)).symm
    · have hmi' : m ≤ i := by omega
      have hi := ih hmi' (by omega)
      obtain ⟨o, ho, hok, hdr, hl, hs, hcase⟩ := hS.step i hmi' (by omega)
      have hda := dstAt_of ho
      rw [hs, ← hda, hi, Fs_add hU (fun d hd => ⟨?_, fun r => ?_⟩)]
      · refine Fs_congr (fun k _ => ?_)
        by_cases hki : k = i
        · subst hki; simp [hmi']
        · have : decide (k < i + 1) = decide (k < i) := by
            by_cases h : k < i
            · simp [h]; omega
            · simp [h]; omega
          rw [this]; simp [hki]
      · exact Nat.lt_of_lt_of_le ((dstOk_and hok).2 d (by rw [← hda]; exact hd)) hS.len
      · rw [← hi]
        exact anyRooted_false ((drawOk_quiet hdr hl).1 d (by rw [← hda]; exact hd)) r

theorem seg_run (hcall : CallOk P call) {m e : Nat} {c : Nat → AV} {S : Nat → St} (hS : Seg P call N ops b m e c S) (hU : DstUniq ops) (hb : BefOk ops b) (hB : ∀ i o, ops[i]? = some o → ∀ e ∈ o.after, Region.binds .any e = true → e.on < i)
    {w0 : World} {g0 : G} (hbar : e < ops.size → ∀ k, k < ops.size → k ≠ e → ordered b e k = true)
    (hfin : ∀ (fuel : Nat) (listed : Array Bool) (a : Act) (w : World) (g : G), Good P N (S e) a hv w g → Fr w0 g0 w g → Lst ops listed (fun k => decide (k < e)) → cnt ops (fun k => decide (k < e)) ≤ fuel → wpAny P .any ops Q fuel listed a w) :
    ∀ (fuel : Nat) (X : Nat → Bool) (listed : Array Bool) (a : Act) (w : World) (g : G), Good P N (Fs ops (S m) c X) a hv w g → Fr w0 g0 w g → (∀ k, X k = true → m ≤ k ∧ k < e) → Closed ops (fun k => decide (k < m) || X k) →
      Lst ops listed (fun k => decide (k < m) || X k) → cnt ops (fun k => decide (k < m) || X k) ≤ fuel → wpAny P .any ops Q fuel listed a w := by
  intro fuel
  induction fuel with
  | zero =>
    intro X listed a w g h hf hX hC hL hc
    by_cases hall : ∀ k, m ≤ k → k < e → X k = true
    · have hXe : ∀ k, (decide (k < m) || X k) = decide (k < e) := by
        intro k
        by_cases h1 : k < m
        · have := hS.me; simp [h1]; omega
        · by_cases h2 : k < e
          · simp [h1, h2, hall k (by omega) h2]
          · have : X k = false := by
              cases hx : X k with
              | false => rfl
              | true => exact absurd (hX k hx).2 h2
            simp [h1, h2, this]
      have hFe : Fs ops (S m) c X = S e := by
        rw [hS.eq hU e hS.me (Nat.le_refl _)]
        refine Fs_congr (fun k _ => ?_)
        have := hXe k
        by_cases h1 : k < m
        · have : X k = false := by
            cases hx : X k with
            | false => rfl
            | true => have := (hX k hx).1; omega
          rw [this]; simp; omega
        · simp [h1] at this
          rw [this]; simp; omega
      rw [hFe] at h
      exact hfin 0 listed a w g h hf (hL.congr fun k _ => hXe k) (by rw [← cnt_congr (fun k _ => hXe k)]; exact hc)
    · obtain ⟨i, h1, h2, h3, _⟩ := least hall
      have hn := hS.en
      have := cnt_lt (ops := ops) (X := fun k => decide (k < m) || X k) (i := i) (by omega) (by simp [h3]; omega)
      omega
  | succ fuel ih =>
    intro X listed a w g h hf hX hC hL hc
    by_cases hall : ∀ k, m ≤ k → k < e → X k = true
    · have hXe : ∀ k, (decide (k < m) || X k) = decide (k < e) := by
        intro k
        by_cases h1 : k < m
        · have := hS.me; simp [h1]; omega
        · by_cases h2 : k < e
          · simp [h1, h2, hall k (by omega) h2]
          · have : X k = false := by
              cases hx : X k with
              | false => rfl
              | true => exact absurd (hX k hx).2 h2
            simp [h1, h2, this]
      have hFe : Fs ops (S m) c X = S e := by
        rw [hS.eq hU e hS.me (Nat.le_refl _)]
        refine Fs_congr (fun k _ => ?_)
        have := hXe k
        by_cases h1 : k < m
        · have : X k = false := by
            cases hx : X k with
            | false => rfl
            | true => have := (hX k hx).1; omega
          rw [this]; simp; omega
        · simp [h1] at this
          rw [this]; simp; omega
      rw [hFe] at h
      exact hfin (fuel + 1) listed a w g h hf (hL.congr fun k _ => hXe k) (by rw [← cnt_congr (fun k _ => hXe k)]; exact hc)
    · obtain ⟨i0, p1, p2, p3, p4⟩ := least hall
      have hn := hS.en
      have hi0 : ops[i0]? = some ops[i0] := Array.getElem?_eq_getElem (by omega)
      have hr0 : i0 ∈ Region.ready .any ops listed := by
        refine (ready_iff hL hB i0).2 ⟨_, hi0, by simp [p3]; omega, fun ed hed hbd => ?_⟩
        have hlt := hB i0 _ hi0 ed hed hbd
        by_cases hm : ed.on < m
        · simp [hm]
        · simp [p4 ed.on (by omega) hlt]
      refine ⟨fun hnil => (by rw [hnil] at hr0; cases hr0), fun i hi => ?_⟩
      obtain ⟨o, ho, hXi, hedges⟩ := (ready_iff hL hB i).1 hi
      have hin := (Array.getElem?_eq_some_iff.1 ho).1
      simp only [Bool.or_eq_false_iff, decide_eq_false_iff_not] at hXi
      obtain ⟨hmi, hXi⟩ := hXi
      have hmi : m ≤ i := by omega
      have hpre : ∀ k, (nth 0 b i).testBit k = true → (decide (k < m) || X k) = true := fun k hk => before_closed hb hC i o k ho hedges hk
      have hie : i < e := by
        apply Classical.byContradiction
        intro hge
        have hen : e < ops.size := by omega
        rcases Nat.lt_or_ge e i with hlt | hge'
        · have := hbar hen i hin (by omega)
          unfold ordered at this
          have hd : decide (i < e) = false := by simp; omega
          rw [hd, cond_false] at this
          have := hpre e this
          have hme := hS.me
          simp only [Bool.or_eq_true, decide_eq_true_eq] at this
          rcases this with h1 | h1
          · omega
          · exact absurd (hX e h1).2 (Nat.lt_irrefl _)
        · have hieq : i = e := by omega
          have := hbar hen i0 (by omega) (by omega)
          unfold ordered at this
          rw [decide_eq_true (show i0 < e from p2), cond_true, ← hieq] at this
          have := hpre i0 this
          simp only [Bool.or_eq_true, decide_eq_true_eq, p3] at this
          rcases this with h1 | h1
          · omega
          · cases h1
      obtain ⟨o', ho', hok, hdr, hl, hs, hcase⟩ := hS.step i hmi hie
      rw [ho] at ho'
      cases ho'
      have hda := dstAt_of ho
      have hSi := hS.eq hU i hmi (by omega)
      obtain ⟨dq1, dq2⟩ := drawOk_quiet hdr hl
      have hrev : ∀ k ok, ops[k]? = some ok → X k = true → (nth 0 b k).testBit i = true → False := by
        intro k ok hok hXk hbit
        have := before_closed hb hC k ok i hok (hC k ok (by simp [hXk]) hok) hbit
        simp only [Bool.or_eq_true, decide_eq_true_eq, hXi] at this
        rcases this with h1 | h1
        · omega
        · cases h1
      -- which writers stand alike in both states
      have alike : ∀ k, k ≠ i → k < ops.size → ordered b i k = true → X k = (decide (m ≤ k) && decide (k < i)) := by
        intro k hki hk hord
        unfold ordered at hord
        by_cases hlt : k < i
        · rw [decide_eq_true hlt, cond_true] at hord
          have := hpre k hord
          by_cases hkm : k < m
          · have hxf : X k = false := by
              cases hx : X k with
              | false => rfl
              | true => have := (hX k hx).1; omega
            rw [hxf]; simp; omega
          · simp [hkm] at this
            rw [this]; simp [hlt]; omega
        · rw [decide_eq_false hlt, cond_false] at hord
          have hxf : X k = false := by
            cases hx : X k with
            | false => rfl
            | true => exact absurd hord (fun hh => hrev k _ (Array.getElem?_eq_getElem hk) hx hh)
          rw [hxf]; simp [hlt]
      have same : ∀ s, (∀ k, ownerOf ops s = some k → k = i ∨ ordered b i k = true) → get (Fs ops (S m) c X) s = get (S i) s := by
        intro s hsk
        rw [hSi]
        by_cases hlt : s < (S m).length
        · rw [get_Fs hlt, get_Fs hlt]
          cases how : ownerOf ops s with
          | none => rfl
          | some k =>
            have hd := owner_dst how
            have : X k = (decide (m ≤ k) && decide (k < i)) := by
              by_cases hki : k = i
              · subst hki; rw [hXi]; simp
              · rcases hsk k how with h1 | h1
                · exact absurd h1 hki
                · exact alike k hki (dstAt_lt hd) h1
            simp only [this]
        · rw [get_ge (by rw [length_Fs]; omega), get_ge (by rw [length_Fs]; omega)]
      have hAg : ∀ x ∈ o.op.operands, Ag (S i) (Fs ops (S m) c X) x := by
        intro x hx s hsr
        refine same s (fun k how => ?_)
        have hd := owner_dst how
        by_cases hki : k = i
        · exact .inl hki
        · rcases dq2 k (dstAt_lt hd) hki with h1 | h1
          · exact .inr h1
          · exact absurd hsr (h1 s hd x hx)
      have hgd : ∀ wt, GuardIs N ops (S i) o wt → GuardIs N ops (Fs ops (S m) c X) o wt := by
        intro wt hg
        unfold GuardIs at hg ⊢
        split at hg
        · exact hg
        · rename_i j want h0
          obtain ⟨d, h1, h2, h3⟩ := hg
          refine ⟨d, h1, h2, ?_⟩
          rw [same d (fun k how => .inr ?_)]
          · exact h3
          · have := hU k j d (owner_dst how) h1
            rw [this]; exact (drawOk_guard hdr j want h0).2
      have hnr : ∀ d, dstAt ops i = some d → d < (S m).length ∧ ∀ r, (get (Fs ops (S m) c X) r).rooted d [] = false := by
        intro d hd
        refine ⟨?_, fun r => ?_⟩
        · exact Nat.lt_of_lt_of_le ((dstOk_and hok).2 d (by rw [← hda]; exact hd)) hS.len
        · by_cases hlt : r < (S m).length
          · rw [get_Fs hlt]
            cases how : ownerOf ops r with
            | none => exact hS.base d i r hd
            | some k =>
              show AV.rooted d [] (bif X k then c k else get (S m) r) = false
              cases hXk : X k with
              | false => exact hS.base d i r hd
              | true =>
                show AV.rooted d [] (c k) = false
                obtain ⟨hk1, hk2⟩ := hX k hXk
                have hki : k ≠ i := by rintro rfl; rw [hXi] at hXk; cases hXk
                obtain ⟨ok, hok1, _, hdrk, hlk, _, hck⟩ := hS.step k hk1 hk2
                cases hrt : (c k).rooted d [] with
                | false => rfl
                | true =>
                  exfalso
                  rcases hck with ⟨_, hcd⟩ | ⟨_, hev⟩
                  · rw [hcd] at hrt; cases hrt
                  · obtain ⟨x, hx, hdx⟩ := evQ_roots hev hrt
                    rcases (drawOk_quiet hdrk hlk).2 i hin (Ne.symm hki) with h1 | h1
                    · unfold ordered at h1
                      by_cases hik : i < k
                      · rw [decide_eq_true hik, cond_true] at h1
                        exact hrev k ok hok1 hXk h1
                      · have hkl : k < i := by omega
                        have hnr := anyRooted_false (dq1 d (by rw [← hda]; exact hd)) r
                        rw [hSi, get_Fs hlt, how] at hnr
                        have hX2 : (decide (m ≤ k) && decide (k < i)) = true := by simp [hk1, hkl]
                        simp only [hX2, cond_true] at hnr
                        rw [hnr] at hrt; cases hrt
                    · exact h1 d hd x hx hdx
          · rw [get_ge (by rw [length_Fs]; omega)]; rfl
      -- the step
      have hadd := Fs_add hU (c := c) (X := X) (i := i) hnr
      rw [hda] at hadd
      have hX2 : ∀ k, (X k || decide (k = i)) = true → m ≤ k ∧ k < e := by
        intro k hk
        simp only [Bool.or_eq_true, decide_eq_true_eq] at hk
        rcases hk with h1 | rfl
        · exact hX k h1
        · exact ⟨hmi, hie⟩
      have hassoc : ∀ k, (decide (k < m) || (X k || decide (k = i))) = ((decide (k < m) || X k) || decide (k = i)) := fun k => by rw [Bool.or_assoc]
      have hC2 : Closed ops (fun k => decide (k < m) || (X k || decide (k = i))) := by
        intro k ok hk hok ed hed hbd
        show (decide (ed.on < m) || (X ed.on || decide (ed.on = i))) = true
        have hk : (decide (k < m) || (X k || decide (k = i))) = true := hk
        rw [hassoc] at hk ⊢
        rw [Bool.or_eq_true] at hk
        rcases hk with h1 | h1
        · have h3 : (decide (ed.on < m) || X ed.on) = true := hC k ok h1 hok ed hed hbd
          rw [h3]; rfl
        · have hki : k = i := of_decide_eq_true h1
          subst hki
          rw [ho] at hok; cases hok
          rw [hedges ed hed hbd]; rfl
      have hL2 : Lst ops (listed.setIfInBounds i true) (fun k => decide (k < m) || (X k || decide (k = i))) := (hL.set i).congr (fun k _ => (hassoc k).symm)
      have hc2 : cnt ops (fun k => decide (k < m) || (X k || decide (k = i))) ≤ fuel := by
        rw [cnt_congr (fun k _ => hassoc k)]
        have := cnt_lt (ops := ops) (X := fun k => decide (k < m) || X k) (i := i) hin (by simp [hXi]; omega)
        omega
      obtain ⟨hopk, hdN⟩ := dstOk_and hok
      unfold wpOp
      simp only [ho]
      rcases hcase with ⟨hg0, hcd⟩ | ⟨hg1, hev⟩
      · rw [GuardIs.wanted h (hgd _ hg0), if_neg (by decide)]
        have h2 := h.skip hdN
        rw [← hcd, hadd] at h2
        exact ih _ _ _ _ _ h2 hf hX2 hC2 hL2 hc2
      · rw [GuardIs.wanted h (hgd _ hg1), if_pos rfl]
        left
        have hev2 : evQ P call o (Fs ops (S m) c X) (fun v => (open Classical in if v = c i then some (([], []) : List AO × List AO) else none)) = some ([], []) := by
          rw [evQ_frame hAg, evQ_bind, hev, Option.bind_some, if_pos rfl]
        refine evQ_sound hcall h hopk hev2 (fun av v w' g' hq hs hk => ?_)
        have hav : av = c i := by
          apply Classical.byContradiction
          intro hne
          rw [if_neg hne] at hk; cases hk
        subst hav
        have h2 := h.putD hdN hq hs
        rw [hadd] at h2
        exact ih _ _ _ _ _ h2 (hf.trans hq.fr) hX2 hC2 hL2 hc2

end
end Go.V

namespace Go.V
section
variable {P : Program} {N : Nat} {st st' : St} {a : Act} {hv : List Value} {w w' : World} {g g' : G} {K : St → R} {r : List AO × List AO} {o : Oper} {Q : Exit → Act → World → Prop} {call : CallF} {ops : Array Oper} {b : List Nat}

theorem get_killDsts (r : Nat) : get (killDsts ops st) r = bif ops.toList.any (fun o => match o.dst with | some d => (get st r).rooted d [] | none => false) then .dead else get st r := by
  unfold killDsts
  refine get_map (fun v => bif ops.toList.any (fun o => match o.dst with | some d => v.rooted d [] | none => false) then .dead else v) ?_ st r
  cases (ops.toList.any fun o => match o.dst with | some d => AV.rooted d [] .dead | none => false) <;> rfl

theorem killDsts_base {d k r : Nat} (h : dstAt ops k = some d) : (get (killDsts ops st) r).rooted d [] = false := by
  rw [get_killDsts]
  cases hb : ops.toList.any (fun o => match o.dst with | some d => (get st r).rooted d [] | none => false) with
  | true => rfl
  | false =>
    rw [List.any_eq_false] at hb
    unfold dstAt at h
    rw [Option.bind_eq_some_iff] at h
    obtain ⟨o, ho, hd⟩ := h
    have := hb o (Array.mem_toList_iff.2 (Array.mem_of_getElem? ho))
    rw [hd] at this
    simpa using this

theorem Good.killDsts (h : Good P N st a hv w g) : Good P N (V.killDsts ops st) a hv w g := by
  have hob : ∀ r q, V.obj (V.killDsts ops st) r q = V.obj st r q := by
    intro r q
    refine obj_of_get (fun x => ?_) q
    rw [get_killDsts]
    constructor
    · intro hx
      have : (ops.toList.any fun o => match o.dst with | some d => (get st r).rooted d [] | none => false) = false := by
        rw [List.any_eq_false, hx]
        intro o _
        cases o.dst <;> simp [AV.rooted]
      rw [this]; exact hx
    · intro hx
      cases hb : (ops.toList.any fun o => match o.dst with | some d => (get st r).rooted d [] | none => false) with
      | true => rw [hb] at hx; cases hx
      | false => rw [hb] at hx; exact hx
  refine h.mk' (by simp [V.killDsts]) h.inv.fresh h.inv.vars (fun t v ht hv' => ?_)
  have hs := h.get_lt ht hv'
  rw [get_killDsts]
  cases hb : (ops.toList.any fun o => match o.dst with | some d => (get st t).rooted d [] | none => false) with
  | true => exact .dead v
  | false =>
    exact hs.keep (Nat.le_refl _) (fun _ _ hb => ⟨hb, rfl⟩) (fun _ _ _ => ⟨fun _ => rfl, fun _ _ _ ht => ⟨ht, rfl⟩⟩) (fun r q _ => .inr ⟨hob r q, rfl⟩)

theorem ready_all {listed : Array Bool} {X : Nat → Bool} (hL : Lst ops listed X) (hB : ∀ i o, ops[i]? = some o → ∀ e ∈ o.after, Region.binds .any e = true → e.on < i) (hX : ∀ k, k < ops.size → X k = true) : Region.ready .any ops listed = [] := by
  rw [List.eq_nil_iff_forall_not_mem]
  intro i hi
  obtain ⟨o, ho, h1, _⟩ := (ready_iff hL hB i).1 hi
  rw [hX i (Array.getElem?_eq_some_iff.1 ho).1] at h1; cases h1

theorem wpAny_all {listed : Array Bool} {X : Nat → Bool} (hL : Lst ops listed X) (hB : ∀ i o, ops[i]? = some o → ∀ e ∈ o.after, Region.binds .any e = true → e.on < i) (hX : ∀ k, k < ops.size → X k = true) (hQ : Q .normal a w) : ∀ fuel, wpAny P .any ops Q fuel listed a w
  | 0 => ⟨ready_all hL hB hX, hQ⟩
  | fuel + 1 => ⟨fun _ => hQ, fun i hi => by rw [ready_all hL hB hX] at hi; cases hi⟩

theorem evOpsD_sound (hcall : CallOk P call) (hU : DstUniq ops) (hb : BefOk ops b) (hB : ∀ i o, ops[i]? = some o → ∀ e ∈ o.after, Region.binds .any e = true → e.on < i) {w0 : World} {g0 : G} (hpost : ThenL P N hv w0 g0 K r (Q .normal)) :
    ∀ (len m : Nat) (env : List (Nat × Bool)) (st : St) (a : Act) (w : World) (g : G) (fuel : Nat) (listed : Array Bool), m + len = ops.size → Good P N st a hv w g → Fr w0 g0 w g → (∀ d k r, dstAt ops k = some d → (get st r).rooted d [] = false) →
      EnvOk N ops env m st → evOpsD P call N ops b (List.range' m len) env st K = some r → Lst ops listed (fun k => decide (k < m)) → cnt ops (fun k => decide (k < m)) ≤ fuel → wpAny P .any ops Q fuel listed a w := by
  intro len
  induction len using Nat.strongRecOn with
  | _ len ih =>
    intro m env st a w g fuel listed hm h hf hbase hE hk hL hc
    obtain ⟨e, c, S, env', q1, q2, q3, q4, q5, q6⟩ := seg_of hU len m env st hm hE hk
    have hlen := h.len
    have hS : Seg P call N ops b m e c S := ⟨q1, q2, q4, fun d k r hd => by rw [q3]; exact hbase d k r hd, by rw [q3, hlen]; exact Nat.le_add_right _ _⟩
    have hF0 : Fs ops (S m) c (fun _ => false) = st := by rw [Fs_empty (fun _ _ => rfl), q3]
    have hor : ∀ k, (decide (k < m) || false) = decide (k < m) := fun k => by simp
    refine seg_run hcall hS hU hb hB (w0 := w0) (g0 := g0) (fun he k hk hke => ?_) (fun fuel listed a w g h hf hL hc => ?_) fuel (fun _ => false) listed a w g (by rw [hF0]; exact h) hf (fun k hk => by cases hk) (fun i o hi ho ed hed hbd => ?_) (hL.congr fun k _ => (hor k).symm) (by rw [cnt_congr (fun k _ => hor k)]; exact hc)
    · rcases q6 with ⟨h1, _⟩ | ⟨_, o, wt, ho, hok, hdr, hl, _⟩
      · omega
      · exact drawOk_loud hdr hl k hk hke
    · rcases q6 with ⟨h1, h2⟩ | ⟨he, o, wt, ho, hok, hdr, hl, hgi, hkk⟩
      · rw [knownAll_eq h q5] at h2
        refine wpAny_all hL hB (fun k hk => ?_) (hpost _ _ _ _ h hf h2) fuel
        simp; omega
      · have hcpos : 0 < cnt ops (fun k => decide (k < e)) := by
          have := cnt_lt (ops := ops) (X := fun k => decide (k < e)) (i := e) he (by simp)
          omega
        obtain ⟨fuel, rfl⟩ : ∃ f, fuel = f + 1 := ⟨fuel - 1, by omega⟩
        have hre : e ∈ Region.ready .any ops listed := (ready_iff hL hB e).2 ⟨o, ho, by simp, fun ed hed hbd => by simpa using hB e o ho ed hed hbd⟩
        refine ⟨fun hnil => (by rw [hnil] at hre; cases hre), fun i hi => ?_⟩
        obtain ⟨oi, hoi, hXi, hedges⟩ := (ready_iff hL hB i).1 hi
        have hin := (Array.getElem?_eq_some_iff.1 hoi).1
        have hC : Closed ops (fun k => decide (k < e)) := by
          intro k ok hk hok ed hed hbd
          have h1 := hB k ok hok ed hed hbd
          have h2 : k < e := by simpa using hk
          show decide (ed.on < e) = true
          simp; omega
        have hie : i = e := by
          apply Classical.byContradiction
          intro hne
          have h1 : e < i := by
            simp at hXi; omega
          have := drawOk_loud hdr hl i hin hne
          unfold ordered at this
          rw [decide_eq_false (by omega), cond_false] at this
          have := before_closed hb hC i oi e hoi hedges this
          simp at this
        subst hie
        rw [ho] at hoi; cases hoi
        obtain ⟨hopk, hdN⟩ := dstOk_and hok
        have hkn := knownAll_eq h q5
        rw [hkn] at hkk
        have hnext : ∀ k, (decide (k < i) || decide (k = i)) = decide (k < i + 1) := by
          intro k
          by_cases h1 : k < i
          · simp [h1]; omega
          · by_cases h2 : k = i
            · simp [h2]
            · simp [h1, h2]; omega
        have hL2 : Lst ops (listed.setIfInBounds i true) (fun k => decide (k < i + 1)) := (hL.set i).congr (fun k _ => hnext k)
        have hc2 : cnt ops (fun k => decide (k < i + 1)) ≤ fuel := by
          rw [← cnt_congr (fun k _ => hnext k)]
          have := cnt_lt (ops := ops) (X := fun k => decide (k < i)) (i := i) hin (by simp)
          omega
        have nxt : ∀ st1 a1 w1 g1, Good P N st1 a1 hv w1 g1 → Fr w0 g0 w1 g1 → evOpsD P call N ops b (List.range' (i + 1) (ops.size - (i + 1))) [] (V.killDsts ops st1) K = some r → wpAny P .any ops Q fuel (listed.setIfInBounds i true) a1 w1 := by
          intro st1 a1 w1 g1 h1 hf1 hk1
          exact ih (ops.size - (i + 1)) (by omega) (i + 1) [] _ a1 w1 g1 fuel _ (by omega) h1.killDsts hf1 (fun d k r hd => killDsts_base hd) (fun j bv hm => by cases hm) hk1 hL2 hc2
        unfold wpOp
        simp only [ho]
        rw [GuardIs.wanted h hgi]
        cases wt with
        | true =>
          rw [if_pos rfl] at hkk ⊢
          left
          exact evL_sound hcall h hopk hdN hl hkk (fun st1 a1 w1 g1 h1 hf1 hk1 => nxt st1 a1 w1 g1 h1 (hf.trans hf1) hk1)
        | false =>
          rw [if_neg (by decide)] at hkk ⊢
          exact nxt _ _ _ _ (h.skip hdN) hf hkk
    · have h1 := hB i o ho ed hed hbd
      simp at hi ⊢; omega

theorem Good.drew (h : Good P N st a hv w g) : Good P N st a hv { w with drawn := w.drawn + 1 } g :=
  good_world h (Nat.le_refl _) (fun _ _ hb => ⟨hb, rfl⟩) h.inv.fresh (fun _ _ _ => rfl) (fun _ _ _ _ ht _ => ⟨ht, rfl⟩)

theorem evDraw_sound (hcall : CallOk P call) (h : Good P N st a hv w g) {id : Nat} (hk : evDraw P call N ops st K = some r) (hpost : ThenL P N hv w g K r (Q .normal)) : (Code.region id ops true).wp P Q a w := by
  unfold evDraw at hk
  obtain ⟨hc, hk⟩ := guardA hk
  simp only [Bool.and_eq_true] at hc
  obtain ⟨c1, c2, c3⟩ := hc
  obtain ⟨b, e1, _, e3⟩ := befK_ex (fun b => evOpsD P call N ops b (List.range ops.size) [] (V.killDsts ops st) K) ops.toList 0 [] rfl
  rw [e1] at hk
  have hb : BefOk ops b := by
    intro i o ho
    have := e3 i o (by rw [Array.getElem?_toList]; exact ho)
    rw [Nat.zero_add] at this; exact this
  have hB : ∀ i o, ops[i]? = some o → ∀ e ∈ o.after, Region.binds .any e = true → e.on < i := by
    intro i o ho e he hbd
    have := backEdges_spec c3 i o (by rw [Array.getElem?_toList]; exact ho) e he hbd
    omega
  have hfr : Fr w g { w with drawn := w.drawn + 1 } g := ⟨rfl, rfl, rfl, Nat.le_refl _, fun _ _ hb => ⟨hb, rfl⟩, fun _ _ hb => ⟨hb, rfl⟩, (Fr.refl w g h.inv.fresh).noOut, h.inv.fresh⟩
  refine wp_region_any c1 ?_
  rw [List.range_eq_range'] at hk
  refine evOpsD_sound hcall (dst_uniq c2) hb hB hpost ops.size 0 [] _ a _ g ops.size _ (by omega) h.drew.killDsts hfr (fun d k r hd => killDsts_base hd) (fun j bv hm => by cases hm) hk ⟨by simp, fun k hk => by simp [hk]⟩ ?_
  unfold cnt
  exact Nat.le_trans (List.length_filter_le _ _) (by simp)

end
end Go.V

namespace Go.V

def toExit : Ex → Exit
  | .normal => .normal
  | .exit id => .exit id
  | .ret => .ret

theorem get_keepFrom : ∀ (st : St) (l : List Nat) (n t : Nat), (keepFrom l n st).length = st.length ∧ (t < st.length → get (keepFrom l n st) t = bif l.any (Nat.beq (n + t)) then keepIn l [] (get st t) else .dead)
  | [], l, n, t => ⟨rfl, fun h => by simp at h⟩
  | v :: st, l, n, t => by
    obtain ⟨h1, _⟩ := get_keepFrom st l (n + 1) 0
    refine ⟨by simp [keepFrom, h1], fun h => ?_⟩
    cases t with
    | zero => rfl
    | succ t =>
      have := (get_keepFrom st l (n + 1) t).2 (by simpa using h)
      show get (keepFrom l (n + 1) st) t = _
      rw [this, show n + 1 + t = n + (t + 1) by omega]; rfl

section
variable {P : Program} {N : Nat} {st st' : St} {a : Act} {hv : List Value} {w w' : World} {g g' : G} {r : List AO × List AO} {o : Oper} {call : CallF} {ops : Array Oper}

theorem Good.keep (h : Good P N st a hv w g) (hint : Option (List Nat)) : Good P N (V.keep hint st) a hv w g := by
  cases hint with
  | none => exact h
  | some l =>
    have hlen : (keepFrom l 0 st).length = st.length := (get_keepFrom st l 0 0).1
    have hget : ∀ t, t < st.length → get (keepFrom l 0 st) t = bif l.any (Nat.beq t) then keepIn l [] (get st t) else .dead := fun t ht => by
      have := (get_keepFrom st l 0 t).2 ht; rwa [Nat.zero_add] at this
    have hob : ∀ s q, l.any (Nat.beq s) = true → V.obj (keepFrom l 0 st) s q = V.obj st s q := by
      intro s q hs
      by_cases hlt : s < st.length
      · have hg := hget s hlt
        rw [hs, cond_true] at hg
        refine obj_of_get (fun x => ?_) q
        rw [hg]
        cases hgs : get st s with
        | o y => simp [keepIn]
        | al r p => simp only [keepIn]; cases l.any (Nat.beq r) <;> simp
        | ptr r p off => simp only [keepIn]; cases l.any (Nat.beq r) <;> simp
        | el r p i off => simp only [keepIn]; cases l.any (Nat.beq r) <;> simp
        | ip => simp [keepIn]
        | tup => simp [keepIn]
        | dead => simp [keepIn]
      · unfold V.obj
        rw [get_ge (st := keepFrom l 0 st) (by rw [hlen]; omega), get_ge (st := st) (by omega)]
    show Good P N (keepFrom l 0 st) a hv w g
    refine h.mk' hlen h.inv.fresh h.inv.vars (fun t v ht hv' => ?_)
    have hs := h.get_lt ht hv'
    rw [hget t ht]
    cases hl : l.any (Nat.beq t) with
    | false => exact .dead v
    | true =>
      simp only [cond_true]
      have kp : ∀ (hin : ∀ r p, (get st t = .al r p ∨ (∃ off, get st t = .ptr r p off) ∨ ∃ i off, get st t = .el r p i off) → l.any (Nat.beq r) = true), SRep P w g (keepFrom l 0 st) t (get st t) v := fun hin =>
        hs.keep (Nat.le_refl _) (fun _ _ hb => ⟨hb, rfl⟩) (fun _ _ _ => ⟨fun _ => rfl, fun _ _ _ ht => ⟨ht, rfl⟩⟩) (fun r p hrp => .inr ⟨hob r p (hin r p hrp), rfl⟩)
      cases hgt : get st t with
      | al r p =>
        simp only [keepIn]
        cases hr : l.any (Nat.beq r) with
        | false => exact .dead v
        | true => rw [← hgt]; exact kp (fun r' p' hh => by rcases hh with hh | ⟨_, hh⟩ | ⟨_, _, hh⟩ <;> rw [hgt] at hh <;> cases hh; exact hr)
      | ptr r p off =>
        simp only [keepIn]
        cases hr : l.any (Nat.beq r) with
        | false => exact .dead v
        | true => rw [← hgt]; exact kp (fun r' p' hh => by rcases hh with hh | ⟨_, hh⟩ | ⟨_, _, hh⟩ <;> rw [hgt] at hh <;> cases hh; exact hr)
      | el r p i off =>
        simp only [keepIn]
        cases hr : l.any (Nat.beq r) with
        | false => exact .dead v
        | true => rw [← hgt]; exact kp (fun r' p' hh => by rcases hh with hh | ⟨_, hh⟩ | ⟨_, _, hh⟩ <;> rw [hgt] at hh <;> cases hh; exact hr)
      | o x => rw [← hgt]; have := kp (fun r' p' hh => by rcases hh with hh | ⟨_, hh⟩ | ⟨_, _, hh⟩ <;> rw [hgt] at hh <;> cases hh); rw [hgt] at this ⊢; exact this
      | ip E x off => have := kp (fun r' p' hh => by rcases hh with hh | ⟨_, hh⟩ | ⟨_, _, hh⟩ <;> rw [hgt] at hh <;> cases hh); rw [hgt] at this; exact this
      | tup vs => have := kp (fun r' p' hh => by rcases hh with hh | ⟨_, hh⟩ | ⟨_, _, hh⟩ <;> rw [hgt] at hh <;> cases hh); rw [hgt] at this; exact this
      | dead => exact .dead v

/-- What a code's end needs. -/
def PostC (P : Program) (N : Nat) (hv : List Value) (w : World) (g : G) (K : Ex → St → R) (r : List AO × List AO) (Q : Exit → Act → World → Prop) : Prop :=
  ∀ e st' a' w' g', Good P N st' a' hv w' g' → Fr w g w' g' → K e st' = some r → Q (toExit e) a' w'

theorem PostC.fr {K : Ex → St → R} {Q : Exit → Act → World → Prop} (h : PostC P N hv w g K r Q) (hf : Fr w g w' g') : PostC P N hv w' g' K r Q :=
  fun e st1 a1 w1 g1 h1 f1 k1 => h e st1 a1 w1 g1 h1 (hf.trans f1) k1

theorem evC_sound (hcall : CallOk P call) {H : Nat → Option (List Nat)} {n : Nat} : ∀ (c : Code) (st : St) (a : Act) (w : World) (g : G) (K : Ex → St → R) (Q : Exit → Act → World → Prop), Good P N st a hv w g → evC P call H gate0 N n c st K = some r → PostC P N hv w g K r Q → c.wp P Q a w := by
  intro c
  induction c with
  | skip => intro st a w g K Q h hk hp; simp only [evC] at hk; exact wp_skip (hp .normal st a w g h (Fr.refl w g h.inv.fresh) hk)
  | label l => intro st a w g K Q h hk hp; simp only [evC] at hk; exact wp_label (hp .normal st a w g h (Fr.refl w g h.inv.fresh) hk)
  | region id ops draw =>
    intro st a w g K Q h hk hp
    have main : ∀ st, Good P N st a hv w g → evReg P call N ops draw st (K .normal) = some r → (Code.region id ops draw).wp P Q a w := by
      intro st h hk
      unfold evReg at hk
      cases draw with
      | true => exact evDraw_sound hcall h hk (fun st' a' w' g' h1 f1 k1 => hp .normal st' a' w' g' h1 f1 k1)
      | false => exact wp_region (evOps_sound hcall _ _ a w g h hk (fun st' a' w' g' h1 f1 k1 => hp .normal st' a' w' g' h1 f1 k1))
    simp only [evC] at hk
    split at hk
    · exact main _ (h.keep _) hk
    · exact main _ h hk
  | seq x y ihx ihy =>
    intro st a w g K Q h hk hp
    simp only [evC] at hk
    refine wp_seq (ihx st a w g _ _ h hk ?_)
    intro e st' a' w' g' h1 f1 k1
    cases e with
    | normal => exact ihy st' a' w' g' K Q h1 k1 (hp.fr f1)
    | exit id => exact hp (.exit id) st' a' w' g' h1 f1 k1
    | ret => exact hp .ret st' a' w' g' h1 f1 k1
  | cond c x y ihx ihy =>
    intro st a w g K Q h hk hp
    simp only [evC] at hk
    split at hk
    · rename_i i
      split at hk
      · rename_i v hg
        obtain ⟨hi, hk⟩ := guardA hk
        have hi := of_decide_eq_true hi
        have hb := (h.bool hi hg).2
        refine wp_cond hb ?_
        cases hvb : v.toBool with
        | true =>
          rw [hvb, h.known hi hg hvb] at hk
          simp only [cond_true] at hk
          rw [if_pos rfl]
          exact ihx st a w g K Q h hk hp
        | false =>
          rw [hvb, h.known hi hg hvb] at hk
          simp only [cond_false] at hk
          rw [if_neg (by decide)]
          exact ihy st a w g K Q h hk hp
      · cases hk
    · rename_i bv
      refine wp_cond (t := bv) rfl ?_
      cases bv with
      | true => simp only [cond_true] at hk; rw [if_pos rfl]; exact ihx st a w g K Q h hk hp
      | false => simp only [cond_false] at hk; rw [if_neg (by decide)]; exact ihy st a w g K Q h hk hp
    · cases hk
  | block id c ih =>
    intro st a w g K Q h hk hp
    simp only [evC] at hk
    refine wp_block (ih st a w g _ _ h hk ?_)
    intro e st' a' w' g' h1 f1 k1
    cases e with
    | normal => exact hp .normal st' a' w' g' h1 f1 k1
    | exit id' =>
      show Exit.inBlock id Q (.exit id') a' w'
      simp only [Exit.inBlock]
      simp only [blockK] at k1
      cases hid : Nat.beq id' id with
      | true =>
        have he := Nat.eq_of_beq_eq_true hid
        rw [hid] at k1
        rw [if_pos he]
        exact hp .normal st' a' w' g' h1 f1 k1
      | false =>
        rw [hid] at k1
        rw [nbeq, decide_eq_false_iff_not] at hid
        rw [if_neg hid]
        exact hp (.exit id') st' a' w' g' h1 f1 k1
    | ret => exact hp .ret st' a' w' g' h1 f1 k1
  | loop c ih =>
    intro st a w g K Q h hk hp
    simp only [evC] at hk
    refine wp_loop_rounds n ?_
    have key : ∀ (hint : Option (List Nat)) m st a w g, Good P N st a hv w g → evLoop (evC P call H gate0 N n c) hint m st K = some r → PostC P N hv w g K r Q → Code.rounds P c Q m a w := by
      intro hint m
      induction m with
      | zero => intro st a w g h hk hp; simp [evLoop] at hk
      | succ m ihm =>
        intro st a w g h hk hp
        simp only [evLoop] at hk
        rw [rounds_succ]
        refine ih _ a w g _ _ h hk ?_
        intro e st' a' w' g' h1 f1 k1
        cases e with
        | normal => exact ihm _ a' w' g' (h1.keep hint) k1 (hp.fr f1)
        | exit id => exact hp (.exit id) st' a' w' g' h1 f1 k1
        | ret => exact hp .ret st' a' w' g' h1 f1 k1
    exact key _ n _ a w g (h.keep _) hk hp
  | scope c ih =>
    intro st a w g K Q h hk hp
    simp only [evC] at hk
    refine wp_scope_straight (ih st a w g K _ h hk ?_)
    intro e st' a' w' g' h1 f1 k1
    have := hp e st' a' w' g' h1 f1 k1
    cases e <;> exact this
  | exit id => intro st a w g K Q h hk hp; simp only [evC] at hk; exact wp_exit (hp (.exit id) st a w g h (Fr.refl w g h.inv.fresh) hk)
  | ret => intro st a w g K Q h hk hp; simp only [evC] at hk; exact wp_ret (hp .ret st a w g h (Fr.refl w g h.inv.fresh) hk)
  | rangeFunc => intro st a w g K Q h hk hp; simp [evC] at hk
  | goto => intro st a w g K Q h hk hp; simp [evC] at hk
  | refuse => intro st a w g K Q h hk hp; simp [evC] at hk

end
end Go.V

namespace Go.V
section
variable {P : Program} {N : Nat} {st st' : St} {a : Act} {hv : List Value} {w w' : World} {g g' : G} {r : List AO × List AO} {o : Oper} {call : CallF} {ops : Array Oper}

/-- A result variable's value. -/
def resRun (tmps : Array Value) : ResultVar → Sem Value
  | .tmp t => pure (tmps.getD t undef)
  | .cell a t => do loadVar t (← asAddr (tmps.getD a undef))

theorem load_agg {s : Nat} {E T : TypeId} {cs : List AO} {xs : List PV} (hor : ORep P w g s [] (.box E cs)) (hT : isAggTy (tyOf P T) = true) (hsz : P.cellsOf T = (cellTys P deep T).length) (hxs : pureCells (cellTys P deep T) cs = some xs) :
    ∃ b v, g.val s [] = .pointer (some ⟨b, 0, none⟩) ∧ (loadVar T ⟨b, 0, none⟩).run P w = .ok v w ∧ PRep P w g (tyOf P T) (.agg xs) v := by
  cases hor with
  | box _ _ _ b vs hv hh ht hl hc hcv =>
    have hcell : ∀ j, w.cell? ⟨b, j, none⟩ = vs[j]? := fun j => by rw [cell_of_row w b j ⟨vs⟩ E (0, 0) hh]; simp
    have hTs := isAggTy_st hT
    obtain ⟨h1, h2⟩ := pureCells_sound hxs
    have key : ∀ (j : Nat) (t : Ty), (cellTys P deep T)[j]? = some t → ∃ y, xs[j]? = some y ∧ vs[j]? = some (g.val s [j]) ∧ PRep P w g t y (g.val s [j]) := by
      intro j t ht
      obtain ⟨y, hy1, hy2⟩ := h2 j t ht
      exact ⟨y, hy1, hcv _ _ hy2 (by simp), (hc _ _ hy2).pv_inv⟩
    have hlen : (cellTys P deep T).length ≤ vs.length := by
      rcases Nat.eq_zero_or_pos (cellTys P deep T).length with h0 | h0
      · omega
      · obtain ⟨y, _, hy, _⟩ := key ((cellTys P deep T).length - 1) _ (List.getElem?_eq_getElem (by omega))
        have := (List.getElem?_eq_some_iff.1 hy).1; omega
    have hcl : (vs.take (cellTys P deep T).length).length = (cellTys P deep T).length := by simp; omega
    refine ⟨b, _, hv, run_loadVar_agg hTs ⟨b, 0, none⟩ (vs.take (cellTys P deep T).length) (by omega) (fun j v hj => ?_), ?_⟩
    · have hjl := (List.getElem?_eq_some_iff.1 hj).1
      rw [addr_add, Nat.zero_add, hcell]
      rw [List.getElem?_take, if_pos (by omega)] at hj; exact hj
    · rw [hTs]
      refine .st T xs _ h1 hcl (fun j ty y c hty hy hcj => ?_)
      obtain ⟨y', e1, e2, e3⟩ := key j ty hty
      rw [hy] at e1; cases e1
      have hjl := (List.getElem?_eq_some_iff.1 hty).1
      rw [List.getElem?_take, if_pos hjl, e2] at hcj
      cases hcj; exact e3

theorem resOf_sound (h : Good P N st a hv w g) {many : Bool} {rv : ResultVar} {T : TypeId} {x : AO} (hr : resOf P N many st rv T = some (st', x)) :
    ∃ g' v, Good P N st' a hv w g' ∧ Fr w g w g' ∧ (resRun a.tmps rv).run P w = .ok v w ∧
      ((∃ t y, x = .pv t y ∧ PRep P w g' t y v) ∨ (many = false ∧ st' = st ∧ g' = g ∧ ∃ s p, s < N ∧ obj st s p = x ∧ x ≠ .dead ∧ v = g.val s p)) := by
  cases rv with
  | tmp t =>
    simp only [resOf] at hr
    cases htn : decide (N ≤ t) with
    | true => rw [htn] at hr; cases hr
    | false =>
      rw [htn] at hr
      simp only [cond_false] at hr
      have ht : t < N := by simpa using htn
      have hrun : (resRun a.tmps (.tmp t)).run P w = .ok (a.eval (.tmp t)) w := rfl
      split at hr
      · rename_i u v hg
        obtain ⟨_, hr⟩ := guardA hr
        cases hr
        have hs := h.slotAt ht hg
        cases hs with
        | o _ _ hv0 hor => exact ⟨g, _, h, Fr.refl w g h.inv.fresh, hrun, .inl ⟨_, _, rfl, by rw [hv0 (by simp)]; exact hor.pv_inv⟩⟩
      · rename_i E l hg
        have hob : obj st t [] = .arr E l := by unfold obj; rw [hg]; rfl
        have hs := h.slotAt ht hg
        have hev : a.eval (.tmp t) = g.val t [] := by cases hs with | o _ _ hv0 _ => exact hv0 (by simp)
        cases hm : many with
        | true =>
          rw [hm] at hr
          cases hr
          obtain ⟨g1, h1, f1⟩ := good_freeze h hob
          refine ⟨g1, _, h1, f1, hrun, .inl ⟨_, _, rfl, ?_⟩⟩
          have hg1 : get (freezeObj st t []) t = .o (.pv (.sl E) (.sl l)) := by
            unfold freezeObj setObj; rw [hg, hob]
            rw [get_set, if_pos ⟨rfl, get_o_lt hg⟩]; rfl
          have hs1 := h1.slotAt ht hg1
          cases hs1 with
          | o _ _ hv0 hor => rw [hv0 (by simp)]; exact hor.pv_inv
        | false =>
          rw [hm] at hr
          cases hr
          exact ⟨g, _, h, Fr.refl w g h.inv.fresh, hrun, .inr ⟨rfl, rfl, rfl, t, [], ht, hob, by simp, hev⟩⟩
      · rename_i E cs hg
        have hob : obj st t [] = .box E cs := by unfold obj; rw [hg]; rfl
        have hs := h.slotAt ht hg
        have hev : a.eval (.tmp t) = g.val t [] := by cases hs with | o _ _ hv0 _ => exact hv0 (by simp)
        cases hm : many with
        | true => rw [hm] at hr; cases hr
        | false =>
          rw [hm] at hr
          cases hr
          exact ⟨g, _, h, Fr.refl w g h.inv.fresh, hrun, .inr ⟨rfl, rfl, rfl, t, [], ht, hob, by simp, hev⟩⟩
      · rename_i s p hg
        have hs := h.slotAt ht hg
        have hev : obj st s p ≠ .dead → a.eval (.tmp t) = g.val s p := by cases hs with | al _ _ _ hv0 => exact hv0
        split at hr
        · rename_i u v hob
          obtain ⟨_, hr⟩ := guardA hr
          cases hr
          have hor := h.obj s p
          rw [hob] at hor
          exact ⟨g, _, h, Fr.refl w g h.inv.fresh, hrun, .inl ⟨_, _, rfl, by rw [hev (by rw [hob]; simp)]; exact hor.pv_inv⟩⟩
        · rename_i E l hob
          cases hm : (many || decide (N ≤ s)) with
          | true =>
            rw [hm] at hr
            cases hr
            obtain ⟨g1, h1, f1⟩ := good_freeze h hob
            refine ⟨g1, _, h1, f1, hrun, .inl ⟨_, _, rfl, ?_⟩⟩
            have hob1 : obj (freezeObj st s p) s p = .pv (.sl E) (.sl l) := by
              unfold freezeObj; rw [hob]; exact obj_setObj_self (by rw [hob]; simp)
            by_cases hts : t = s
            · subst hts
              unfold obj at hob
              rw [hg] at hob; cases hob
            · have hg1 : get (freezeObj st s p) t = .al s p := by unfold freezeObj; rw [get_setObj_ne hts, hg]
              have hs1 := h1.slotAt ht hg1
              have hor := h1.obj s p
              rw [hob1] at hor
              cases hs1 with
              | al _ _ _ hv0 => rw [hv0 (by rw [hob1]; simp)]; exact hor.pv_inv
          | false =>
            rw [hm] at hr
            cases hr
            rw [Bool.or_eq_false_iff] at hm
            exact ⟨g, _, h, Fr.refl w g h.inv.fresh, hrun, .inr ⟨hm.1, rfl, rfl, s, p, by simpa using hm.2, hob, by simp, hev (by rw [hob]; simp)⟩⟩
        · rename_i E cs hob
          cases hm : (many || decide (N ≤ s)) with
          | true => rw [hm] at hr; cases hr
          | false =>
            rw [hm] at hr
            cases hr
            rw [Bool.or_eq_false_iff] at hm
            exact ⟨g, _, h, Fr.refl w g h.inv.fresh, hrun, .inr ⟨hm.1, rfl, rfl, s, p, by simpa using hm.2, hob, by simp, hev (by rw [hob]; simp)⟩⟩
        · cases hr
      · cases hr
  | cell c T' =>
    simp only [resOf] at hr
    cases htn : (decide (N ≤ c) || !Nat.beq T T') with
    | true => rw [htn] at hr; cases hr
    | false =>
      rw [htn] at hr
      simp only [cond_false] at hr
      rw [Bool.or_eq_false_iff] at htn
      have ht : c < N := by simpa using htn.1
      have hTT : T = T' := by have := htn.2; simp [nbeq] at this; exact this
      subst hTT
      obtain ⟨g1, h1, f1⟩ := good_freezeCells c [] (cellTys P deep T).length 0 st g h
      split at hr
      · rename_i E cs hg
        have hs := h1.slotAt ht hg
        have hor : ORep P w g1 c [] (.box E cs) := by cases hs with | o _ _ _ hor => exact hor
        have hev : a.eval (.tmp c) = g1.val c [] := by cases hs with | o _ _ hv0 _ => exact hv0 (by simp)
        have hrun : ∀ b v, g1.val c [] = .pointer (some ⟨b, 0, none⟩) → (loadVar T ⟨b, 0, none⟩).run P w = .ok v w → (resRun a.tmps (.cell c T)).run P w = .ok v w := by
          intro b v hb hl
          have he : a.tmps.getD c undef = .pointer (some ⟨b, 0, none⟩) := by rw [← hb, ← hev]; rfl
          simp only [resRun, he, Sem.run_bind]
          have : (asAddr (.pointer (some (⟨b, 0, none⟩ : Addr)))).run P w = .ok ⟨b, 0, none⟩ w := by simp [asAddr]
          rw [this, Result.andThen_ok, hl]
        cases hA : isAggTy (tyOf P T) with
        | true =>
          rw [hA] at hr
          simp only [cond_true] at hr
          obtain ⟨hsz, hr⟩ := guardA hr
          have hsz := Nat.eq_of_beq_eq_true hsz
          split at hr
          · rename_i vs hvs
            cases hr
            obtain ⟨b, v, e1, e2, e3⟩ := load_agg hor hA hsz hvs
            exact ⟨g1, v, h1, f1, hrun b v e1 e2, .inl ⟨_, _, rfl, e3⟩⟩
          · cases hr
        | false =>
          rw [hA] at hr
          simp only [cond_false] at hr
          obtain ⟨hsc, hr⟩ := guardA hr
          split at hr
          · rename_i u v hcell
            obtain ⟨hu, hr⟩ := guardA hr
            cases hr
            cases hor with
            | box _ _ _ b vs hv hh htg hl hc hcv =>
              have h0 : cs[0]? = some (.pv u v) := by
                rw [nth_eq] at hcell
                cases h0 : cs[0]? with
                | none => rw [h0] at hcell; cases hcell
                | some y => rw [h0] at hcell; simp at hcell; rw [hcell]
              have hvs := hcv 0 _ h0 (by simp)
              have hp := (hc 0 _ h0).pv_inv
              refine ⟨g1, _, h1, f1, hrun b _ hv (run_loadVar_scalar hsc _ _ ?_), .inl ⟨_, _, rfl, hp⟩⟩
              rw [cell_of_row w b 0 ⟨vs⟩ E (0, 0) hh]; simpa using hvs
          · cases hr
      · cases hr

theorem resAll_sound : ∀ {rs : List (ResultVar × TypeId)} {st : St} {g : G} {xs : List AO}, Good P N st a hv w g → resAll P N true rs st = some (st', xs) →
    ∃ g' vs, Good P N st' a hv w g' ∧ Fr w g w g' ∧ (rs.mapM fun p => resRun a.tmps p.1).run P w = .ok vs w ∧ vs.length = xs.length ∧ xs.length = rs.length ∧
      ∀ (i : Nat) (x : AO) (v : Value), xs[i]? = some x → vs[i]? = some v → ∃ t y, x = .pv t y ∧ PRep P w g' t y v
  | [], st, g, xs, h, hr => by
    simp only [resAll, Option.some.injEq, Prod.mk.injEq] at hr
    obtain ⟨rfl, rfl⟩ := hr
    exact ⟨g, [], h, Fr.refl w g h.inv.fresh, rfl, rfl, rfl, fun i x v hx => by simp at hx⟩
  | (rv, T) :: rs, st, g, xs, h, hr => by
    simp only [resAll] at hr
    split at hr
    · rename_i st1 x hx
      split at hr
      · rename_i st2 ys hys
        cases hr
        obtain ⟨g1, v, h1, f1, r1, hcase⟩ := resOf_sound h hx
        obtain ⟨g2, vs, h2, f2, r2, l1, l2, e2⟩ := resAll_sound h1 hys
        refine ⟨g2, v :: vs, h2, f1.trans f2, ?_, by simp [l1], by simp [l2], fun i x' v' hx' hv' => ?_⟩
        · rw [List.mapM_cons]
          simp only [Sem.run_bind, r1, Result.andThen_ok, r2, Sem.run_pure]
        · cases i with
          | zero =>
            simp at hx' hv'
            subst hx' hv'
            rcases hcase with ⟨t, y, e, hp⟩ | ⟨hm, _⟩
            · exact ⟨t, y, e, hp.fr f2⟩
            · cases hm
          | succ i => exact e2 i x' v' (by simpa using hx') (by simpa using hv')
      · cases hr
    · cases hr

def resVal : List Value → Value
  | [v] => v
  | vs => .tuple ⟨vs⟩

theorem run_results {fn : Func} {tmps : Array Value} {vs : List Value} (h : (fn.results.toList.mapM fun p => resRun tmps p).run P w = .ok vs w) (hl : vs.length = fn.results.size) :
    (results fn tmps).run P w = .ok (resVal vs) w := by
  have e : results fn tmps = (do let vs ← fn.results.mapM (resRun tmps); pure (if h : vs.size = 1 then vs[0] else .tuple vs)) := by
    unfold results
    congr 1
  rw [e, Array.mapM_eq_mapM_toList, Sem.run_bind]
  have : (List.toArray <$> fn.results.toList.mapM (resRun tmps)).run P w = .ok vs.toArray w := by
    rw [map_eq_pure_bind, Sem.run_bind]
    have h' : (fn.results.toList.mapM (resRun tmps)).run P w = .ok vs w := h
    rw [h', Result.andThen_ok, Sem.run_pure]
  rw [this, Result.andThen_ok, Sem.run_pure]
  clear this e h hl
  cases vs with
  | nil => rfl
  | cons x vs => cases vs with
    | nil => rfl
    | cons y zs => simp [resVal]

end
end Go.V

namespace Go.V
section
variable {P : Program} {N : Nat} {st st' : St} {a : Act} {hv : List Value} {w w' : World} {g g' : G} {r : List AO × List AO} {call : CallF}

theorem entry_spec : ∀ {as : List AO} {vals : List Value} {k : Nat}, ArgsRep P w g k as vals →
    vals.length = as.length ∧ (entrySlots N k as).length = as.length ∧ (entryLent as).length = nLent as ∧
    (∀ (i : Nat) (sl : AV) (v : Value), (entrySlots N k as)[i]? = some sl → vals[i]? = some v → (∃ t x, sl = .o (.pv t x) ∧ PRep P w g t x v) ∨ ∃ j, j < nLent as ∧ sl = .al (N + (k + j)) [] ∧ v = g.val (k + j) []) ∧
    ∀ (j : Nat) (y : AV), (entryLent as)[j]? = some y → ∃ x, y = .o x ∧ ORep P w g (k + j) [] x
  | [], [], k, _ => ⟨rfl, rfl, rfl, fun i sl v h => by simp [entrySlots] at h, fun j y h => by simp [entryLent] at h⟩
  | [], _ :: _, k, h => by cases h
  | x :: as, [], k, h => by cases x <;> cases h
  | x :: as, v :: vals, k, h => by
    have lent : (x ≠ .dead ∧ ORep P w g k [] x ∧ v = g.val k [] ∧ ArgsRep P w g (k + 1) as vals) → entrySlots N k (x :: as) = .al (N + k) [] :: entrySlots N (k + 1) as → entryLent (x :: as) = .o x :: entryLent as → nLent (x :: as) = nLent as + 1 →
        (v :: vals).length = (x :: as).length ∧ (entrySlots N k (x :: as)).length = (x :: as).length ∧ (entryLent (x :: as)).length = nLent (x :: as) ∧
        (∀ (i : Nat) (sl : AV) (v' : Value), (entrySlots N k (x :: as))[i]? = some sl → (v :: vals)[i]? = some v' → (∃ t x, sl = .o (.pv t x) ∧ PRep P w g t x v') ∨ ∃ j, j < nLent (x :: as) ∧ sl = .al (N + (k + j)) [] ∧ v' = g.val (k + j) []) ∧
        ∀ (j : Nat) (y : AV), (entryLent (x :: as))[j]? = some y → ∃ x, y = .o x ∧ ORep P w g (k + j) [] x := by
      rintro ⟨_, h2, h3, h4⟩ e1 e2 e3
      obtain ⟨i1, i2, i3, i4, i5⟩ := entry_spec h4
      rw [e1, e2, e3]
      refine ⟨by simp [i1], by simp [i2], by simp [i3], fun i sl v' hs hv => ?_, fun j y hy => ?_⟩
      · cases i with
        | zero =>
          simp at hs hv
          subst hs hv
          exact .inr ⟨0, by omega, rfl, h3⟩
        | succ i =>
          rcases i4 i sl v' (by simpa using hs) (by simpa using hv) with hl | ⟨j, j1, j2, j3⟩
          · exact .inl hl
          · refine .inr ⟨j + 1, by omega, ?_, ?_⟩
            · rw [j2]; congr 1; omega
            · rw [j3]; congr 1; omega
      · cases j with
        | zero => simp at hy; subst hy; exact ⟨x, rfl, h2⟩
        | succ j =>
          obtain ⟨x', hx, hx2⟩ := i5 j y (by simpa using hy)
          exact ⟨x', hx, by rw [show k + (j + 1) = k + 1 + j by omega]; exact hx2⟩
    cases x with
    | pv t x =>
      obtain ⟨h1, h2⟩ := h
      obtain ⟨i1, i2, i3, i4, i5⟩ := entry_spec h2
      refine ⟨by simp [i1], by simp [entrySlots, i2], by simp [entryLent, nLent, i3], fun i sl v' hs hv => ?_, fun j y hy => i5 j y (by simpa [entryLent] using hy)⟩
      cases i with
      | zero =>
        simp [entrySlots] at hs hv
        subst hs hv
        exact .inl ⟨t, x, rfl, h1⟩
      | succ i => exact i4 i sl v' (by simpa [entrySlots] using hs) (by simpa using hv)
    | box E cs => exact lent h rfl rfl rfl
    | arr E l => exact lent h rfl rfl rfl
    | dead => exact lent h rfl rfl rfl

/-- The ghosts of a frame. -/
def G.enter (g : G) (N : Nat) (vals : List Value) : G :=
  { tag := fun b => match g.tag b with | .own s p => .own (N + s) p | t => t,
    val := fun s q => if s < N then vals.getD s undef else g.val (s - N) q }

theorem good_entry {as : List AO} {vals : List Value} (h : ArgsRep P w g 0 as vals) (hle : as.length ≤ N) (hfr : ∀ b, w.heap.size ≤ b → g.tag b = .free) (hvr : VarsOk P w g) :
    Good P N (entry N as) { tmps := ⟨vals⟩ ++ Array.replicate (N - (⟨vals⟩ : Array Value).size) undef, defers := [] } ((List.range (nLent as)).map fun k => g.val k []) w (g.enter N vals) := by
  obtain ⟨i1, i2, i3, i4, i5⟩ := entry_spec (N := N) h
  have hsz : (⟨vals⟩ : Array Value).size = vals.length := rfl
  have hf : ∀ b, b < w.heap.size → g.tag b = .free → (g.enter N vals).tag b = .free ∧ w.heap[b]? = w.heap[b]? := fun b _ hb => ⟨by simp [G.enter, hb], rfl⟩
  refine ⟨⟨?_, fun s x v hx hv => ?_, fun b hb => by simp [G.enter, hfr b hb], hvr.keep (Nat.le_refl _) hf⟩, by simp [hsz]; omega, rfl⟩
  · simp [entry, i2, i3, i1]
  · have hm1 : (entrySlots N 0 as ++ List.replicate (N - as.length) AV.dead).length = N := by simp [i2]; omega
    have hm2 : ((⟨vals⟩ : Array Value) ++ Array.replicate (N - (⟨vals⟩ : Array Value).size) undef).toList.length = N := by simp [i1]; omega
    have hx : ((entrySlots N 0 as ++ List.replicate (N - as.length) .dead) ++ entryLent as)[s]? = some x := hx
    have hv : (((⟨vals⟩ : Array Value) ++ Array.replicate (N - (⟨vals⟩ : Array Value).size) undef).toList ++ (List.range (nLent as)).map fun k => g.val k [])[s]? = some v := hv
    by_cases hs : s < N
    · rw [List.getElem?_append_left (by omega)] at hx hv
      by_cases hsl : s < as.length
      · rw [List.getElem?_append_left (by omega)] at hx
        have hv' : vals[s]? = some v := by
          rw [Array.toList_append, List.getElem?_append_left (by show s < vals.length; omega)] at hv; exact hv
        have hvs : (g.enter N vals).val s [] = v := by simp [G.enter, hs, List.getD, hv']
        rcases i4 s x v hx hv' with ⟨t, y, rfl, hp⟩ | ⟨j, j1, rfl, rfl⟩
        · exact .o _ _ (fun _ => hvs.symm) (.pv [] t y (by rw [hvs]; exact hp.ext (Nat.le_refl _) hf))
        · refine .al _ [] _ (fun _ => ?_)
          have : ¬ (N + (0 + j)) < N := by omega
          show g.val (0 + j) [] = (g.enter N vals).val (N + (0 + j)) []
          simp only [G.enter, if_neg this]
          congr 1; omega
      · rw [List.getElem?_append_right (by omega)] at hx
        rw [List.getElem?_replicate] at hx
        split at hx
        · cases hx; exact .dead v
        · cases hx
    · rw [List.getElem?_append_right (by omega)] at hx hv
      rw [hm1] at hx
      rw [hm2] at hv
      obtain ⟨y, rfl, hor⟩ := i5 (s - N) x hx
      rw [Nat.zero_add] at hor
      have hlt : s - N < nLent as := by
        have := (List.getElem?_eq_some_iff.1 hx).1
        rw [i3] at this; exact this
      rw [List.getElem?_map, List.getElem?_range hlt] at hv
      simp only [Option.map_some, Option.some.injEq] at hv
      have hval : ∀ q, (g.enter N vals).val s q = g.val (s - N) q := fun q => by simp [G.enter, hs]
      refine .o y v (fun _ => by rw [hval, ← hv]) (hor.ext (s' := s) (p' := []) (Nat.le_refl _) hf (fun q => by simpa using hval q) (fun b q hb ht => ⟨?_, rfl⟩))
      simp only [List.nil_append] at ht ⊢
      have : N + (s - N) = s := by omega
      simp [G.enter, ht, this]

/-- The ghosts behind a frame; the result lay at (s0, p0), if it is owned; its values. -/
def G.leave (g : G) (N L s0 : Nat) (p0 : List Nat) (fv : List Nat → Value) : G :=
  { tag := fun b => match g.tag b with
      | .own s p => if N ≤ s then (if s - N < L then .own (s - N) p else .free) else if s = s0 ∧ pre p0 p = true then .own L (p.drop p0.length) else .free
      | t => t,
    val := fun k q => if k = L then fv q else g.val (N + k) q }

theorem finish_sound {fn : Func} {as : List AO} {vals : List Value} {w0 : World} {g0 : G} {res back : List AO} (hfr0 : ∀ b, w0.heap.size ≤ b → g0.tag b = .free)
    (h : Good P fn.ntmps st a ((List.range (nLent as)).map fun k => g0.val k []) w g) (hf : Fr w0 (g0.enter fn.ntmps vals) w g) (hk : finish P fn st = some (res, back)) :
    ∃ v, (results fn a.tmps).run P w = .ok v w ∧ CallPost P w0 g0 as res back (.returned v) w := by
  unfold finish at hk
  split at hk
  · rename_i st1 xs hall
    obtain ⟨hc, hk⟩ := guardA hk
    have hc := Nat.eq_of_beq_eq_true hc
    simp only [Option.some.injEq, Prod.mk.injEq] at hk
    obtain ⟨rfl, rfl⟩ := hk
    -- what any end gives
    have fin : ∀ (st1 : St) (g1 : G) (s0 : Nat) (p0 : List Nat) (fv : List Nat → Value) (v : Value), Good P fn.ntmps st1 a ((List.range (nLent as)).map fun k => g0.val k []) w g1 → Fr w g w g1 →
        (ResRep P w (g1.leave fn.ntmps (nLent as) s0 p0 fv) (nLent as) xs v) → CallPost P w0 g0 as xs (backOf fn.ntmps st1) (.returned v) w := by
      intro st1 g1 s0 p0 fv v h1 f1 hres
      have hlen : st1.length = fn.ntmps + nLent as := by have := h1.len; simpa using this
      have hF := hf.trans f1
      have hpf : ∀ b, b < w.heap.size → g1.tag b = .free → (g1.leave fn.ntmps (nLent as) s0 p0 fv).tag b = .free ∧ w.heap[b]? = w.heap[b]? := fun b _ hb => ⟨by simp [G.leave, hb], rfl⟩
      refine ⟨v, g1.leave fn.ntmps (nLent as) s0 p0 fv, rfl, ⟨hF.os, hF.tape, hF.output, hF.size, fun b hb ht => ?_, fun b hb ht => ?_, fun b hb => ?_, fun b hb => ?_⟩, hres, fun b s p ht => ?_, by simp [backOf, hlen], fun i y hy => ?_⟩
      · obtain ⟨t1, t2⟩ := hF.free b hb (by simp [G.enter, ht])
        exact ⟨by simp [G.leave, t1], t2⟩
      · obtain ⟨t1, t2⟩ := hF.out b hb (by simp [G.enter, ht])
        exact ⟨by simp [G.leave, t1], t2⟩
      · simp only [G.leave] at hb
        have hb' : g1.tag b = .out := by
          split at hb
          · split at hb
            · split at hb <;> cases hb
            · split at hb <;> cases hb
          · exact hb
        obtain ⟨t1, t2⟩ := hF.noOut b hb'
        refine ⟨?_, t2⟩
        simp only [G.enter] at t1
        split at t1
        · cases t1
        · exact t1
      · simp [G.leave, h1.inv.fresh b hb]
      · simp only [G.leave] at ht
        split at ht
        · split at ht
          · split at ht
            · cases ht; omega
            · cases ht
          · split at ht
            · cases ht; exact Nat.le_refl _
            · cases ht
        · rename_i hno; exact absurd ht (hno s p)
      · simp only [backOf, List.getElem?_map, Option.map_eq_some_iff, List.getElem?_drop] at hy
        obtain ⟨z, hz, rfl⟩ := hy
        have hi : i < nLent as := by
          have := (List.getElem?_eq_some_iff.1 hz).1; omega
        have hg := get_of_getElem? hz
        have hs := h1.hid (i := i) (v := g0.val i []) (by rw [List.getElem?_map, List.getElem?_range hi]; rfl)
        rw [hg] at hs
        cases z with
        | o x =>
          simp only
          cases hs with
          | o _ _ hv0 hor =>
            refine ⟨hor.ext (s' := i) (p' := []) (Nat.le_refl _) hpf (fun q => by simp [G.leave, Nat.ne_of_lt hi]) (fun b q hb ht => ⟨?_, rfl⟩), fun hd => ?_⟩
            · simp only [List.nil_append] at ht ⊢
              simp [G.leave, ht, hi]
            · simp only [G.leave, if_neg (Nat.ne_of_lt hi)]
              exact (hv0 hd).symm
        | _ => exact ⟨.dead [], fun hd => absurd rfl hd⟩
    cases hm : decide (fn.results.size ≠ 1) with
    | true =>
      rw [hm] at hall
      obtain ⟨g1, vs, h1, f1, r1, l1, l2, e1⟩ := resAll_sound h hall
      have hzip : (fn.results.toList.zip fn.resultTypes.toList).map Prod.fst = fn.results.toList := by
        rw [List.length_zip] at l2
        refine List.map_fst_zip ?_
        simp at l2 ⊢; omega
      have hr1 : (fn.results.toList.mapM fun p => resRun a.tmps p).run P w = .ok vs w := by
        rw [← hzip, List.mapM_map]
        exact r1
      have hres := run_results hr1 (by omega)
      refine ⟨_, hres, fin st1 g1 0 [] (fun _ => undef) _ h1 f1 ?_⟩
      have hne : vs.length ≠ 1 := by
        have := of_decide_eq_true hm
        omega
      have hrv : resVal vs = .tuple ⟨vs⟩ := by
        cases vs with
        | nil => rfl
        | cons x vs => cases vs with
          | nil => exact absurd rfl hne
          | cons y zs => rfl
      rw [hrv]
      have hxne : xs.length ≠ 1 := by omega
      have htup : ∃ vs', Value.tuple ⟨vs⟩ = .tuple ⟨vs'⟩ ∧ vs'.length = xs.length ∧ ∀ (i : Nat) (x : AO) (v : Value), xs[i]? = some x → vs'[i]? = some v → ∃ t y, x = .pv t y ∧ PRep P w (g1.leave fn.ntmps (nLent as) 0 [] (fun _ => undef)) t y v := by
        refine ⟨vs, rfl, l1, fun i x v hx hv => ?_⟩
        obtain ⟨t, y, q1, q2⟩ := e1 i x v hx hv
        exact ⟨t, y, q1, q2.ext (Nat.le_refl _) (fun b _ hb => ⟨by simp [G.leave, hb], rfl⟩)⟩
      match xs, hxne, htup with
      | [], _, htup => exact htup
      | [x], hxne, _ => exact absurd rfl hxne
      | x :: y :: zs, _, htup => exact htup
    | false =>
      rw [hm] at hall
      have h1s : fn.results.size = 1 := by simpa using hm
      have hxl : xs.length = 1 := by omega
      obtain ⟨rv, hrl⟩ : ∃ rv, fn.results.toList = [rv] := by
        have hl1 : fn.results.toList.length = 1 := by rw [Array.length_toList]; exact h1s
        exact List.length_eq_one_iff.1 hl1
      rw [hrl] at hall
      cases hrt : fn.resultTypes.toList with
      | nil =>
        rw [hrt] at hall
        simp only [List.zip_nil_right, resAll, Option.some.injEq, Prod.mk.injEq] at hall
        rw [← hall.2] at hxl; cases hxl
      | cons T Ts =>
        rw [hrt] at hall
        simp only [List.zip_cons_cons, List.zip_nil_left, resAll] at hall
        split at hall
        · rename_i st2 x hx
          cases hall
          obtain ⟨g1, v, h1, f1, r1, hcase⟩ := resOf_sound h hx
          have hr1 : (fn.results.toList.mapM fun p => resRun a.tmps p).run P w = .ok [v] w := by
            rw [hrl, List.mapM_cons, List.mapM_nil]
            simp only [Sem.run_bind, r1, Result.andThen_ok, Sem.run_pure]
          have hres := run_results hr1 (by rw [h1s]; rfl)
          rcases hcase with ⟨t, y, rfl, hp⟩ | ⟨_, rfl, rfl, s, p, hs, hob, hxd, hv⟩
          · exact ⟨v, hres, fin _ g1 fn.ntmps [] (fun _ => v) v h1 f1 ⟨.pv [] t y (by
              have : (g1.leave fn.ntmps (nLent as) fn.ntmps [] (fun _ => v)).val (nLent as) [] = v := by simp [G.leave]
              rw [this]
              exact hp.ext (Nat.le_refl _) (fun b _ hb => ⟨by simp [G.leave, hb], rfl⟩)), fun _ => by simp [G.leave]⟩⟩
          · exact ⟨v, hres, fin _ g1 s p (fun q => g1.val s (p ++ q)) v h1 f1 ⟨by
              have hor := h1.obj s p
              rw [hob] at hor
              refine hor.ext (s' := nLent as) (p' := []) (Nat.le_refl _) (fun b _ hb => ⟨by simp [G.leave, hb], rfl⟩) (fun q => by simp [G.leave]) (fun b q hb ht => ⟨?_, rfl⟩)
              have : ¬ fn.ntmps ≤ s := by omega
              have hpp : pre p (p ++ q) = true := (pre_iff _ _).2 ⟨q, rfl⟩
              simp [G.leave, ht, this, hpp], fun _ => by rw [hv]; simp [G.leave]⟩⟩
        · cases hall
  · cases hk

theorem evStep_sound {H : FuncId → Nat → Option (List Nat)} (hcall : CallOk P call) (k : Nat) : CallOk P (evStep P H call k) := by
  have key : ∀ f as res back, evStep P H call k f as = some (res, back) → ∃ fn c, P.funcs[f]? = some fn ∧ fn.body = some c ∧ as.length ≤ fn.ntmps ∧ fn.name ≠ "runtime.NumGoroutine" ∧
      evC P call (H f) gate0 fn.ntmps k c (entry fn.ntmps as) (finK P fn) = some (res, back) := by
    intro f as res back h
    simp only [evStep, evStepG] at h
    split at h
    · rename_i fn hf
      split at h
      · rename_i c hb
        obtain ⟨hc, h⟩ := guardA h
        simp only [Bool.and_eq_true, decide_eq_true_eq, Bool.not_eq_true', decide_eq_false_iff_not] at hc
        exact ⟨fn, c, hf, hb, hc.1, hc.2.2, h⟩
      · cases h
    · cases h
  refine ⟨fun f as res back h vals w g hargs hfr hvr hown => ?_⟩
  obtain ⟨fn, c, h1, h2, h3, h4, h5⟩ := key f as res back h
  have hgood := good_entry hargs h3 hfr hvr
  refine .inl ⟨fn, h1, by rw [h2]; rfl, h4, calls_of_wp h1 h2 (evC_sound hcall c _ _ w _ _ _ hgood h5 ?_)⟩
  intro e st' a' w' g' hg hf hk
  cases e with
  | normal =>
    obtain ⟨v, r1, r2⟩ := finish_sound hfr hg hf hk
    exact ⟨hg.dfr, v, r1, r2⟩
  | ret =>
    obtain ⟨v, r1, r2⟩ := finish_sound hfr hg hf hk
    exact ⟨hg.dfr, v, r1, r2⟩
  | exit id => cases hk

theorem evF_sound (P : Program) (H : FuncId → Nat → Option (List Nat)) : ∀ k, CallOk P (evF P H k)
  | 0 => ⟨fun f as res back h => by simp [evF] at h⟩
  | k + 1 => evStep_sound (evF_sound P H k) k

/-- As evF, where 'base' tells some calls by itself. -/
def evG (P : Program) (H : FuncId → Nat → Option (List Nat)) (base : CallF) : Nat → CallF
  | 0, f, az => base f az
  | k + 1, f, az => match base f az with
    | some r => some r
    | none => evStep P H (evG P H base k) k f az

theorem evG_sound (P : Program) (H : FuncId → Nat → Option (List Nat)) {base : CallF} (hb : CallOk P base) : ∀ k, CallOk P (evG P H base k)
  | 0 => ⟨fun f as res back h => hb.ok f as res back h⟩
  | k + 1 => by
    have ih := evStep_sound (H := H) (evG_sound P H hb k) k
    refine ⟨fun f as res back h => ?_⟩
    simp only [evG] at h
    split at h
    · rename_i r hr
      cases h
      exact hb.ok f as res back hr
    · exact ih.ok f as res back h

end
end Go.V

/- block.clone, walked: what it gives owns all its blocks; block.put at any place of such a tree gives the tree with the other one at that place. Conditions: those that each theorem names. -/
import Derived.Test.YtcdkljinnmphjaaVQ
import Derived.OwnWalk
set_option maxRecDepth 100000
set_option linter.unusedSimpArgs false
set_option linter.unusedVariables false
namespace Go.V
open Go.Proofs Go.RowKit

inductive IsQ : PV → Prop
  | mk (n d : Int) (hn : (Lit.int .i64 n).wf = true) (hd : (Lit.int .i64 d).wf = true) : IsQ (.agg [.int .i64 n, .int .i64 d])

inductive IsBlk : PV → Prop
  | mk (op name : ByteArray) (n m : Int) (nums : List PV) (fk : ByteArray) (fa fb : Int) (fc fd : ByteArray) (kids : List PV)
    (hn : ∀ q ∈ nums, IsQ q) (hk : ∀ b ∈ kids, IsBlk b) (ln : nums.length * 16 ≤ room) (lk : kids.length * 160 ≤ room) :
    IsBlk (.agg [.str op, .str name, .int .i64 n, .int .i64 m, .sl nums, .str fk, .int .i64 fa, .int .i64 fb, .str fc, .str fd, .sl kids])

theorem Try.u22 : Try.prog.underlying 22 = some (.slice 38) := by kernel_rfl
theorem Try.u25 : Try.prog.underlying 25 = some (.slice 27) := by kernel_rfl
theorem ok38 : okElem Try.prog 38 = true := by kernel_rfl
theorem ok27 : okElem Try.prog 27 = true := by kernel_rfl
theorem nQ : Try.prog.cellsOf 38 = 2 := by kernel_rfl
theorem Try.inf38 : (Try.prog.info? 38).map (fun i => (i.zero, i.size, i.bytes)) = some (some (.agg #[.int .i64 0, .int .i64 0]), 2, 16) := by kernel_rfl
theorem Try.inf27 : (Try.prog.info? 27).map (fun i => (i.zero, i.size, i.bytes)) = some (some (.agg #[.string ⟨#[]⟩, .string ⟨#[]⟩, .int .i64 0, .int .i64 0, .slice none 0 0, .string ⟨#[]⟩, .int .i64 0, .int .i64 0, .string ⟨#[]⟩, .string ⟨#[]⟩, .slice none 0 0]), 11, 160) := by kernel_rfl

/-- A block's value, opened. -/
theorem blk_open {w : World} {g : G} {op name : ByteArray} {n m : Int} {nums : List PV} {fk : ByteArray} {fa fb : Int} {fc fd : ByteArray} {kids : List PV} {v : Value}
    (h : PRep Try.prog w g (.st 27) (blkP op name n m nums fk fa fb fc fd kids) v) : ∃ o l c o' l' c', v = blkV op name n m (.slice o l c) fk fa fb fc fd (.slice o' l' c') ∧
      PRep Try.prog w g (.sl 38) (.sl nums) (.slice o l c) ∧ PRep Try.prog w g (.sl 27) (.sl kids) (.slice o' l' c') := by
  obtain ⟨xs, cs, hx, rfl, hxl, hcl, hh⟩ := h.st_inv
  rw [cBlk] at hxl hcl hh
  unfold blkP at hx
  cases hx
  match cs, hcl with
  | [v0, v1, v2, v3, v4, v5, v6, v7, v8, v9, v10], _ =>
    have h0 := hh 0 _ _ _ rfl rfl rfl
    have h1 := hh 1 _ _ _ rfl rfl rfl
    have h2 := hh 2 _ _ _ rfl rfl rfl
    have h3 := hh 3 _ _ _ rfl rfl rfl
    have h4 := hh 4 _ _ _ rfl rfl rfl
    have h5 := hh 5 _ _ _ rfl rfl rfl
    have h6 := hh 6 _ _ _ rfl rfl rfl
    have h7 := hh 7 _ _ _ rfl rfl rfl
    have h8 := hh 8 _ _ _ rfl rfl rfl
    have h9 := hh 9 _ _ _ rfl rfl rfl
    have h10 := hh 10 _ _ _ rfl rfl rfl
    cases h0; cases h1; cases h2; cases h3; cases h5; cases h6; cases h7; cases h8; cases h9
    have e4 : ∃ o l c, v4 = .slice o l c := by cases h4 <;> exact ⟨_, _, _, rfl⟩
    have e10 : ∃ o l c, v10 = .slice o l c := by cases h10 <;> exact ⟨_, _, _, rfl⟩
    obtain ⟨o, l, c, rfl⟩ := e4
    obtain ⟨o', l', c', rfl⟩ := e10
    exact ⟨o, l, c, o', l', c', rfl, h4, h10⟩

theorem cells11 {w : World} {g : G} {x : PV} {v : Value} (h : PRep Try.prog w g (.st 27) x v) : v.cells.size = 11 ∧ ∀ u ∈ v.cells.toList, u.oneCell' = true := by
  have h' : PRep Try.prog w g (tyOf Try.prog 27) x v := by rw [tBlk]; exact h
  refine ⟨?_, cells_one h' (by rw [tBlk]; rfl)⟩
  obtain ⟨xs, cs, rfl, rfl, _, hc, _⟩ := h.st_inv
  rw [cBlk] at hc
  exact hc

/-- 'append([]Q(nil), nums...)'. -/
theorem app_nums {w : World} {g : G} {nums : List PV} {xv : Value} (hp : PRep Try.prog w g (.sl 38) (.sl nums) xv) (hl : nums.length * 16 ≤ room) (ty : TypeId) :
    ∃ o l c w', (Builtin.append_ #[22, 22] ty #[.slice none 0 0, xv]).run Try.prog w = .ok (.slice o l c) w' ∧ w.grownBy w' none ∧ PRep Try.prog w' (gR w.heap.size w'.heap.size) (.sl 38) (.sl nums) (.slice o l c) := by
  obtain ⟨i, hi, hz0, hz1, hz2⟩ := info_parts Try.inf38
  have key : ∀ (f : Nat → Value) (a : Addr) (c : Nat), (∀ (i : Nat) (x : PV), nums[i]? = some x → PRep Try.prog w g (tyOf Try.prog 38) x (f i)) →
      (∀ i, i < nums.length → ∀ j, j < 2 → w.cell? (a.add (i * 2 + j)) = (f i).cells[j]?) → (nums = [] ∨ g.tag a.block = .free) →
      ∃ o l c' w', (Builtin.append_ #[22, 22] ty #[.slice none 0 0, .slice (some a) nums.length c]).run Try.prog w = .ok (.slice o l c') w' ∧ w.grownBy w' none ∧ PRep Try.prog w' (gR w.heap.size w'.heap.size) (.sl 38) (.sl nums) (.slice o l c') := by
    intro f a c hrep hc hfree
    obtain ⟨e1, e2, e3⟩ := els_of (w := w) (g := g) ok38 hrep
    rw [nQ] at e1 e2 e3
    have hlen : (elCells f nums.length 2).length = nums.length * 2 := by have := e1.len; rw [nQ] at this; exact this
    obtain ⟨v', w', hr, hown, hg, _⟩ := run_append_own (P := Try.prog) w w.heap.size 22 ty 38 i _ 2 16 Try.u22 hi hz0 hz1 hz2 rfl (by decide) (.slice none 0 0) 0 [] (World.ownsRow_nil _ _ _ _) a nums.length c (elCells f nums.length 2) hlen
      (fun j u hu => by
        have hj := (List.getElem?_eq_some_iff.1 hu).1
        rw [hlen] at hj
        have hd : j / 2 < nums.length := by omega
        have hm : j % 2 < 2 := Nat.mod_lt _ (by decide)
        have hcc := hc _ hd _ hm
        have hk := elCells_get e3 hd hm
        have hjj : j / 2 * 2 + j % 2 = j := by omega
        rw [hjj] at hcc hk
        rw [hcc, ← hk, hu]) e2 (by unfold maxLen; unfold room at hl; omega) (by unfold room at hl; omega) (Nat.le_refl _)
    rw [Nat.zero_add, List.nil_append] at hown
    rcases hown.2 with ⟨rfl, h2⟩ | ⟨b, cap, cur, rfl, h2, h3, h4, h5, h6, h7⟩
    · have : nums = [] := List.eq_nil_of_length_eq_zero h2
      subst this
      exact ⟨none, 0, 0, w', hr, hg, .nsl _⟩
    · have hbs : b < w'.heap.size := by
        rcases Nat.lt_or_ge b w'.heap.size with h' | h'
        · exact h'
        · rw [Array.getElem?_eq_none h'] at h3; cases h3
      refine ⟨_, _, _, w', hr, hg, .sl 38 nums b 0 cap f (fun i y hy => ?_) (fun i hi j hj => ?_) (gR_free.2 ⟨h2, hbs⟩) hbs h4⟩
      · have hy' := hrep i y hy
        have t38 : tyOf Try.prog 38 = .st 38 := by kernel_rfl
        have c38 : cellTys Try.prog deep 38 = [.int .i64, .int .i64] := by kernel_rfl
        rw [t38] at hy' ⊢
        obtain ⟨xs, cs, rfl, hfi, hx1, hc1, hh⟩ := hy'.st_inv
        rw [hfi]
        refine .st 38 xs cs hx1 hc1 fun k ty x v q1 q2 q3 => ?_
        have := hh k ty x v q1 q2 q3
        rw [c38] at q1
        have hty : ty = .int .i64 := by
          match k with
          | 0 => simpa using q1.symm
          | 1 => simpa using q1.symm
          | k + 2 => simp at q1
        subst hty
        cases this; exact .int _ _
      · rw [nQ] at hj ⊢
        rw [Nat.zero_add, hown.cellAt (i * 2 + j) (by omega)]
        exact elCells_get e3 hi hj
  cases hp with
  | nsl _ => exact ⟨none, 0, 0, w, run_append_owned_none (P := Try.prog) (w := w) w.heap.size 22 ty 38 i 2 Try.u22 hi (.slice none 0 0) 0 [] (World.ownsRow_nil w _ _ _), ⟨rfl, rfl, rfl, Nat.le_refl _, fun _ _ _ => rfl⟩, .nsl _⟩
  | esl _ a => exact key (fun _ => undef) a 0 (fun i x h => by simp at h) (fun i hi => by simp at hi) (.inl rfl)
  | sl _ _ b off cap f h hc ht hb hl' =>
    refine key f ⟨b, off, none⟩ cap h (fun i hi j hj => ?_) (.inr ht)
    have := hc i hi j (by rw [nQ]; exact hj)
    rw [nQ] at this
    rw [← this, Addr.add_lit]
    congr 2
    omega

/-- The kids that a clone has so far. -/
structure KP (w : World) (m0 : Nat) (ks : List PV) (vk : Value) (xs : List Value) (f : Nat → Value) (l h : Nat → Nat) : Prop where
  own : w.ownsRow m0 27 11 vk ks.length xs
  isv : ∀ i, i < ks.length → IsV (f i)
  cell : ∀ i, i < ks.length → ∀ j, j < 11 → xs[i * 11 + j]? = (f i).cells[j]?
  rng : ∀ i, i < ks.length → m0 ≤ l i ∧ l i ≤ h i ∧ h i ≤ w.heap.size ∧ ∀ b, vk.ownBlock = some b → ¬ (l i ≤ b ∧ b < h i)
  sep : ∀ i j, i < ks.length → j < ks.length → i ≠ j → h i ≤ l j ∨ h j ≤ l i
  kid : ∀ (i : Nat) (y : PV), ks[i]? = some y → OTree w (l i) (h i) y (f i)

theorem KP.nil (w : World) (m0 : Nat) : KP w m0 [] (.slice none 0 0) [] (fun _ => undef) (fun _ => 0) (fun _ => 0) :=
  ⟨World.ownsRow_nil _ _ _ _, fun i h => by simp at h, fun i h => by simp at h, fun i h => by simp at h, fun i j h => by simp at h, fun i y h => by simp at h⟩

theorem KP.keep {w w' : World} {m0 : Nat} {ks : List PV} {vk : Value} {xs : List Value} {f : Nat → Value} {l h : Nat → Nat} (k : KP w m0 ks vk xs f l h) (hs : w.heap.size ≤ w'.heap.size) (hf : ∀ b, m0 ≤ b → b < w.heap.size → w'.heap[b]? = w.heap[b]?) : KP w' m0 ks vk xs f l h := by
  refine ⟨ownsRow_keep k.own fun b hb => hf b (k.own.lt b hb).1 (k.own.lt b hb).2, k.isv, k.cell, fun i hi => ?_, k.sep, fun i y hy => ?_⟩
  · obtain ⟨a1, a2, a3, a4⟩ := k.rng i hi
    exact ⟨a1, a2, Nat.le_trans a3 hs, a4⟩
  · obtain ⟨a1, a2, a3, a4⟩ := k.rng i (List.getElem?_eq_some_iff.1 hy).1
    exact (k.kid i y hy).ext hs fun b h1 h2 => hf b (by omega) (by omega)

/-- One kid more. -/
theorem KP.push {w W1 w' : World} {m0 : Nat} {ks : List PV} {vk vk' : Value} {xs : List Value} {f : Nat → Value} {l h : Nat → Nat} {y : PV} {v : Value} (k : KP w m0 ks vk xs f l h) (hm : m0 ≤ w.heap.size)
    (hb : Below w.heap.size w W1) (hy : OTree W1 w.heap.size W1.heap.size y v)
    (hown : w'.ownsRow m0 27 11 vk' (ks.length + 1) (xs ++ v.cells.toList)) (hs : W1.heap.size ≤ w'.heap.size) (hf : ∀ b, b < W1.heap.size → m0 ≤ b → vk.ownBlock ≠ some b → w'.heap[b]? = W1.heap[b]?)
    (hbk : ∀ b, vk'.ownBlock = some b → vk.ownBlock = some b ∨ W1.heap.size ≤ b) (h11 : v.cells.size = 11) :
    KP w' m0 (ks ++ [y]) vk' (xs ++ v.cells.toList) (fun i => if i < ks.length then f i else v) (fun i => if i < ks.length then l i else w.heap.size) (fun i => if i < ks.length then h i else W1.heap.size) := by
  have hn : (ks ++ [y]).length = ks.length + 1 := by simp
  have hxl : xs.length = ks.length * 11 := k.own.1
  have hss := hb.size
  refine ⟨by rw [hn]; exact hown, fun i hi => ?_, fun i hi j hj => ?_, fun i hi => ?_, fun i j hi hj hij => ?_, fun i z hz => ?_⟩
  · by_cases hik : i < ks.length
    · simp only [hik, if_true]; exact k.isv i hik
    · simp only [hik, if_false]; exact hy.isV
  · by_cases hik : i < ks.length
    · simp only [hik, if_true]
      rw [List.getElem?_append_left (by omega)]; exact k.cell i hik j hj
    · simp only [hik, if_false]
      have : i = ks.length := by omega
      subst this
      rw [List.getElem?_append_right (by omega), hxl, Nat.add_sub_cancel_left, Array.getElem?_toList]
  · by_cases hik : i < ks.length
    · simp only [hik, if_true]
      obtain ⟨a1, a2, a3, a4⟩ := k.rng i hik
      refine ⟨a1, a2, by omega, fun b hbb => ?_⟩
      rcases hbk b hbb with h1 | h1
      · exact a4 b h1
      · omega
    · simp only [hik, if_false]
      refine ⟨hm, hss, hs, fun b hbb => ?_⟩
      rcases hbk b hbb with h1 | h1
      · have := (k.own.lt b h1).2; omega
      · omega
  · by_cases hik : i < ks.length
    · by_cases hjk : j < ks.length
      · simp only [hik, hjk, if_true]; exact k.sep i j hik hjk hij
      · simp only [hik, hjk, if_true, if_false]; exact .inl (k.rng i hik).2.2.1
    · by_cases hjk : j < ks.length
      · simp only [hik, hjk, if_true, if_false]; exact .inr (k.rng j hjk).2.2.1
      · omega
  · by_cases hik : i < ks.length
    · simp only [hik, if_true]
      rw [List.getElem?_append_left hik] at hz
      obtain ⟨a1, a2, a3, a4⟩ := k.rng i hik
      refine (k.kid i z hz).ext (by omega) fun b h1 h2 => ?_
      rw [hf b (by omega) (by omega) (fun e => a4 b e ⟨h1, h2⟩)]
      exact hb.block b (by omega)
    · simp only [hik, if_false]
      have hil : i < (ks ++ [y]).length := (List.getElem?_eq_some_iff.1 hz).1
      have : i = ks.length := by omega
      subst this
      simp at hz
      subst hz
      refine hy.ext hs fun b h1 h2 => hf b h2 (by omega) fun e => ?_
      have := (k.own.lt b e).2; omega

/-- Where the new slice lies: in the old row or in a new one. -/
theorem own_where {w : World} (base : Nat) (t ty e : TypeId) (i : TypeInfo) (z : Value) (size bytes : Nat) (ht : Try.prog.underlying t = some (.slice e)) (hi : Try.prog.info? e = some i) (hz : i.zero = some z)
    (hsize : i.size = size) (hby : i.bytes = bytes) (v : Value) (n : Nat) (xs : List Value) (hown : w.ownsRow base e size v n xs)
    (a : Addr) (m c : Nat) (news : List Value) (hl : news.length = m * size) (hnews : ∀ j u, news[j]? = some u → w.cell? (a.add j) = some u) (h1 : ∀ u ∈ news, u.oneCell' = true)
    (hm : 0 < m) (h63 : n + m ≤ maxLen) (hbytes : (n + m) * bytes ≤ 140737488355328) {v' : Value} {w' : World}
    (hr : (Builtin.append_ #[t, t] ty #[v, .slice (some a) m c]).run Try.prog w = .ok v' w') : ∀ b, v'.ownBlock = some b → v.ownBlock = some b ∨ w.heap.size ≤ b := by
  subst hsize
  subst hby
  have hsmall : n + m ≤ 9223372036854775807 := by simp only [maxLen] at h63; omega
  rcases hown.2 with ⟨rfl, rfl⟩ | ⟨g, cap, cur, rfl, hbg, hg, hnc, hcm, hcs, htake⟩
  · have h := run_append_nil (P := Try.prog) w t ty e i z ht hi hz a m c news hl hnews hm (by omega) (by have hb := hbytes; simp only [Nat.zero_add] at hb; omega)
    rw [h] at hr
    cases hr
    intro b hb
    cases hb
    exact .inr (Nat.le_refl _)
  · by_cases hroom : n + m ≤ cap
    · have h := run_append_room (P := Try.prog) w t ty e i ht hi g n cap cur hg a m c news hl hnews h1 hroom (by rw [hl, hcs, ← Nat.add_mul]; exact Nat.mul_le_mul_right _ hroom)
      rw [h] at hr
      cases hr
      intro b hb
      exact .inl hb
    · have h := run_append_grow (P := Try.prog) w t ty e i z ht hi hz ⟨g, 0, none⟩ n cap xs hown.1 (hown.cells (g := g) rfl) a m c news hl hnews (by omega) (by omega) (growslice_fits (by omega) hbytes)
      rw [h] at hr
      cases hr
      intro b hb
      cases hb
      exact .inr (Nat.le_refl _)

/-- 'append(c.Kids, y)'. -/
theorem app_kid {W1 : World} {m0 : Nat} {vk : Value} {n : Nat} {xs : List Value} (hown : W1.ownsRow m0 27 11 vk n xs) (hm : m0 ≤ W1.heap.size) {v : Value} (h11 : v.cells.size = 11) (hone : ∀ u ∈ v.cells.toList, u.oneCell' = true) (hl : (n + 1) * 160 ≤ room) (ty : TypeId) :
    ∃ o l c w', (Builtin.append_ #[25, 25] ty #[vk, .slice (some ⟨W1.heap.size, 0, none⟩) 1 1]).run Try.prog (W1.alloc (.cells v.cells 27)) = .ok (.slice o l c) w' ∧
      w'.ownsRow m0 27 11 (.slice o l c) (n + 1) (xs ++ v.cells.toList) ∧ (W1.alloc (.cells v.cells 27)).grownBy w' vk.ownBlock ∧ ∀ b, (Value.slice o l c).ownBlock = some b → vk.ownBlock = some b ∨ W1.heap.size ≤ b := by
  obtain ⟨i, hi, hz0, hz1, hz2⟩ := info_parts Try.inf27
  have hown' := hown.alloc (.cells v.cells 27)
  have hnews : ∀ j u, v.cells.toList[j]? = some u → (W1.alloc (.cells v.cells 27)).cell? ((⟨W1.heap.size, 0, none⟩ : Addr).add j) = some u := by
    intro j u hu
    rw [Addr.add_lit, Nat.zero_add]
    have : (W1.alloc (.cells v.cells 27)).heap[W1.heap.size]? = some (.cells v.cells 27 (0, 0)) := heap_alloc_new W1 _
    rw [cell_of_row _ _ j _ _ _ this, ← Array.getElem?_toList]; exact hu
  have hb : (n + 1) * 160 ≤ 140737488355328 := by unfold room at hl; omega
  have h63 : n + 1 ≤ maxLen := by unfold maxLen; omega
  obtain ⟨v', w', hr, h2, h3, _⟩ := run_append_own (P := Try.prog) (W1.alloc (.cells v.cells 27)) m0 25 ty 27 i _ 11 160 Try.u25 hi hz0 hz1 hz2 rfl (by decide) vk n xs hown' ⟨W1.heap.size, 0, none⟩ 1 1 v.cells.toList (by simp [h11]) hnews hone h63 hb (by simp; omega)
  have hw := own_where m0 25 ty 27 i _ 11 160 Try.u25 hi hz0 hz1 hz2 vk n xs hown' ⟨W1.heap.size, 0, none⟩ 1 1 v.cells.toList (by simp [h11]) hnews hone (by decide) h63 hb hr
  rcases h2.2 with ⟨rfl, h4⟩ | ⟨g, cap, cur, rfl, h4⟩
  · exact ⟨_, _, _, w', hr, h2, h3, fun b hb => (hw b hb).imp_right fun h => by simp at h; omega⟩
  · exact ⟨_, _, _, w', hr, h2, h3, fun b hb => (hw b hb).imp_right fun h => by simp at h; omega⟩
end Go.V

set_option maxRecDepth 100000
set_option maxHeartbeats 4000000
set_option linter.unusedSimpArgs false
set_option linter.unusedVariables false
namespace Go.V
open Go.Proofs Go.RowKit

theorem wp_kid {w w' : World} {o : Oper} {a : Act} {K : Act → World → Prop} {Q : Exit → Act → World → Prop} {vk xv v : Value} (s x : Operand) (ho : o.op = .call { callee := .builtin .append, args := #[s, x], argTypes := #[25, 25] })
    (hs : a.eval s = vk) (hx : a.eval x = xv) (hr : (Builtin.append_ #[25, 25] o.type #[vk, xv]).run Try.prog w = .ok v w') (h : K (a.put o.dst v) w') : o.wp Try.prog a w K Q := by
  unfold Oper.wp execOp
  simp only [ho, resolve, invoke, builtin, Sem.run_bind, Sem.run_pure, Result.andThen_ok, List.map_toArray, List.map_cons, List.map_nil, hs, hx, hr]
  exact h

theorem gR_at {W w' : World} {a b : Nat} {x : PV} {v : Value} (h : W.heap.size = a) (hp : PRep Try.prog w' (gR W.heap.size b) (.sl 38) x v) : PRep Try.prog w' (gR a b) (.sl 38) x v := h ▸ hp

theorem b_setCell {w W : World} (h : Below w.heap.size w W) {p : Addr} (hp : w.heap.size ≤ p.block) (u : Value) : Below w.heap.size w (W.setCell p u) := h.setCell hp u

theorem wpList_nums {w : World} {ops : Array Oper} {rest : List Oper} {o : Oper} {a : Act} {Q : Exit → Act → World → Prop} (hgd : o.guard = none) (s x : Operand)
    (ho : o.op = .call { callee := .builtin .append, args := #[s, x], argTypes := #[22, 22] }) (hs : a.eval s = .slice none 0 0) (xv : Value) (hx : a.eval x = xv) {g : G} {nums : List PV}
    (hp : PRep Try.prog w g (.sl 38) (.sl nums) xv) (hl : nums.length * 16 ≤ room)
    (h : ∀ o' l' c' w', w.grownBy w' none → PRep Try.prog w' (gR w.heap.size w'.heap.size) (.sl 38) (.sl nums) (.slice o' l' c') → wpList Try.prog ops Q rest (a.put o.dst (.slice o' l' c')) w') : wpList Try.prog ops Q (o :: rest) a w := by
  refine wpList_plain hgd fun K hK => ?_
  obtain ⟨o', l', c', w', hr, hg, hn⟩ := app_nums hp hl o.type
  unfold Oper.wp execOp
  simp only [ho, resolve, invoke, builtin, Sem.run_bind, Sem.run_pure, Result.andThen_ok, List.map_toArray, List.map_cons, List.map_nil, hs, hx, hr]
  exact hK _ _ (h o' l' c' w' hg hn)

/-- What is known of the copy's own memory: its cells, the result's. -/
structure CB (s : Nat) (w : World) (v : Value) : Prop where
  c : ∀ j, j < 11 → w.cell? ⟨s + 1 + 1, j, none⟩ = v.cells[j]?
  cz : ∀ j, j < 11 → w.frozen? ⟨s + 1 + 1, j, none⟩ = false
  r : ∀ j, j < 11 → ∃ u, w.cell? ⟨s + 1, j, none⟩ = some u
  rz : ∀ j, j < 11 → w.frozen? ⟨s + 1, j, none⟩ = false

theorem CB.keep {s : Nat} {w w' : World} {v : Value} (h : CB s w v) (h1 : w'.heap[s + 1]? = w.heap[s + 1]?) (h2 : w'.heap[s + 1 + 1]? = w.heap[s + 1 + 1]?) : CB s w' v :=
  ⟨fun j hj => by rw [World.cell?_of_block (w := w) h2]; exact h.c j hj, fun j hj => by rw [World.frozen?_of_block (w := w) h2]; exact h.cz j hj, fun j hj => by rw [World.cell?_of_block (w := w) h1]; exact h.r j hj, fun j hj => by rw [World.frozen?_of_block (w := w) h1]; exact h.rz j hj⟩

theorem kids_open {w : World} {g : G} {kids : List PV} {o : Option Addr} {l c : Nat} (hk : PRep Try.prog w g (.sl 27) (.sl kids) (.slice o l c)) : l = kids.length ∧
    ∀ k, k < kids.length → ∃ y b off v, kids[k]? = some y ∧ o = some ⟨b, off, none⟩ ∧ b < w.heap.size ∧ PRep Try.prog w g (.st 27) y v ∧ ∀ j, j < 11 → w.cell? ⟨b, off + k * 11 + j, none⟩ = v.cells[j]? := by
  cases hk with
  | nsl _ => exact ⟨rfl, fun k h => by simp at h⟩
  | esl _ a => exact ⟨rfl, fun k h => by simp at h⟩
  | sl _ _ b off cap f h hc ht hb hl =>
    refine ⟨rfl, fun k hk => ⟨_, b, off, f k, List.getElem?_eq_getElem hk, rfl, hb, ?_, fun j hj => ?_⟩⟩
    · have := h k _ (List.getElem?_eq_getElem hk)
      rw [tBlk] at this
      exact this
    · have := hc k hk j (by rw [nBlk]; exact hj)
      rw [nBlk] at this
      exact this

/-- What the append leaves. -/
def Fin7 (m0 : Nat) (W6 : World) (ks : List PV) (w : World) (v : Value) : Prop :=
  (∃ xs f l h, KP w m0 ks v xs f l h) ∧ w.os = W6.os ∧ w.tape = W6.tape ∧ w.output = W6.output ∧ W6.heap.size ≤ w.heap.size ∧ ∀ b, b < m0 → w.heap[b]? = W6.heap[b]?

/-- The invariant of clone's region that draws. -/
def I7 (s m0 : Nat) (mk : Value → Value → Value → Value → Value → Value → Value → Act) (W6 : World) (ks : List PV) (y : PV) (v20 v21 : Value) (x0 x1 x2 x3 x4 x5 x6 x7 : Bool) (a : Act) (w : World) : Prop :=
  ∃ t19 t20 t21 t22 t23 t24 t25 : Value, a = mk t19 t20 t21 t22 t23 t24 t25 ∧ (x0 = true → t19 = .pointer (some ⟨s + 1 + 1, 10, none⟩)) ∧ (x1 = true → t20 = v20) ∧ (x2 = true → t21 = v21) ∧ (x6 = true → t25 = .pointer (some ⟨s + 1 + 1, 10, none⟩)) ∧
    (x3 = false → w = W6) ∧
    (x3 = true → ∃ W1, Below W6.heap.size W6 W1 ∧ OTree W1 W6.heap.size W1.heap.size y t22 ∧ (x4 = false → w = W1) ∧ (x4 = true → t23 = .slice (some ⟨W1.heap.size, 0, none⟩) 1 1 ∧ (x5 = false → w = W1.alloc (.cells t22.cells 27)))) ∧
    (x5 = true → ∃ o l c w0, t24 = .slice o l c ∧ Fin7 m0 W6 ks w0 t24 ∧ (x7 = false → w = w0) ∧ (x7 = true → w = w0.setCell ⟨s + 1 + 1, 10, none⟩ t24))

theorem I7.below {W6 W : World} {y : PV} {t22 t23 : Value} {x3 x4 x5 : Bool} (h5 : x5 = false) (hw6 : x3 = false → W = W6)
    (hw3 : x3 = true → ∃ W1, Below W6.heap.size W6 W1 ∧ OTree W1 W6.heap.size W1.heap.size y t22 ∧ (x4 = false → W = W1) ∧ (x4 = true → t23 = .slice (some ⟨W1.heap.size, 0, none⟩) 1 1 ∧ (x5 = false → W = W1.alloc (.cells t22.cells 27)))) : Below W6.heap.size W6 W := by
  cases h3 : x3 with
  | false => rw [hw6 h3]; exact Below.refl _ _
  | true =>
    obtain ⟨W1, b1, _, b3, b4⟩ := hw3 h3
    cases h4 : x4 with
    | false => rw [b3 h4]; exact b1
    | true => rw [(b4 h4).2 h5]; exact b1.alloc b1.size _

theorem clone_c {t : PV} (ht : IsBlk t) : ∀ (w : World) (g : G) (v : Value), PRep Try.prog w g (.st 27) t v → Calls Try.prog 29 #[v] w fun e w' => ∃ v', e = .returned v' ∧ Below w.heap.size w w' ∧ OTree w' w.heap.size w'.heap.size t v' := by
  induction ht with
  | mk op name n m nums fk fa fb fc fd kids hn hk ln lk ih =>
  intro w g v hp
  obtain ⟨o, l, c, o', l', c', rfl, hnums, hkids⟩ := blk_open hp
  obtain ⟨hl', hkc⟩ := kids_open hkids
  have hnb : ∀ W, Below w.heap.size w W → PRep Try.prog W g (.sl 38) (.sl nums) (.slice o l c) := fun W h => hnums.ext h.size fun b hb ht => ⟨ht, h.block b hb⟩
  unfold blkV
  obtain ⟨i27, hi, hz0, hz1, hz2⟩ := info_parts Try.inf27
  clear hp hkids
  go_enter Try.func29, Try.ntmps29
  go_wp2_with (first
    | (
    at_builtin; refine wpList_nums rfl _ _ rfl rfl _ rfl (hnb _ (by repeat first | with_reducible exact Below.refl _ _ | with_reducible apply b_alloc | (with_reducible refine b_setCell ?_ (by simp; omega) _))) ln ?_; intro o9 l9 c9 w1 hg1 hpn;
    have hgs := hg1.size;
    have hpn := (gR_at (a := w.heap.size + 3) (by simp)) hpn;
    have hs1 : w.heap.size + 3 ≤ w1.heap.size := Nat.le_trans (by simp <;> omega) hgs;
    have hb1 : Below w.heap.size w w1 := Below.grown (by repeat first | with_reducible exact Below.refl _ _ | with_reducible apply b_alloc | (with_reducible refine b_setCell ?_ (by simp; omega) _)) hg1 (by simp <;> omega) (fun k h => by cases h);
    have kb : w1.cell? ⟨w.heap.size, 10, none⟩ = some (.slice o' kids.length c') := (World.cell?_of_block (hg1.block (w.heap.size) (by simp <;> omega) (by simp))).trans (by go_simp);
    have cc0 : w1.cell? ⟨w.heap.size + 1 + 1, 0, none⟩ = some (.string op) := (World.cell?_of_block (hg1.block (w.heap.size + 1 + 1) (by simp <;> omega) (by simp))).trans (by go_simp);
    have cz0 : w1.frozen? ⟨w.heap.size + 1 + 1, 0, none⟩ = false := (World.frozen?_of_block (hg1.block (w.heap.size + 1 + 1) (by simp <;> omega) (by simp))).trans (by go_simp);
    have rr0 : w1.cell? ⟨w.heap.size + 1, 0, none⟩ = some (.string ⟨#[]⟩) := (World.cell?_of_block (hg1.block (w.heap.size + 1) (by simp <;> omega) (by simp))).trans (by go_simp);
    have rz0 : w1.frozen? ⟨w.heap.size + 1, 0, none⟩ = false := (World.frozen?_of_block (hg1.block (w.heap.size + 1) (by simp <;> omega) (by simp))).trans (by go_simp);
    have cc1 : w1.cell? ⟨w.heap.size + 1 + 1, 1, none⟩ = some (.string name) := (World.cell?_of_block (hg1.block (w.heap.size + 1 + 1) (by simp <;> omega) (by simp))).trans (by go_simp);
    have cz1 : w1.frozen? ⟨w.heap.size + 1 + 1, 1, none⟩ = false := (World.frozen?_of_block (hg1.block (w.heap.size + 1 + 1) (by simp <;> omega) (by simp))).trans (by go_simp);
    have rr1 : w1.cell? ⟨w.heap.size + 1, 1, none⟩ = some (.string ⟨#[]⟩) := (World.cell?_of_block (hg1.block (w.heap.size + 1) (by simp <;> omega) (by simp))).trans (by go_simp);
    have rz1 : w1.frozen? ⟨w.heap.size + 1, 1, none⟩ = false := (World.frozen?_of_block (hg1.block (w.heap.size + 1) (by simp <;> omega) (by simp))).trans (by go_simp);
    have cc2 : w1.cell? ⟨w.heap.size + 1 + 1, 2, none⟩ = some (.int .i64 n) := (World.cell?_of_block (hg1.block (w.heap.size + 1 + 1) (by simp <;> omega) (by simp))).trans (by go_simp);
    have cz2 : w1.frozen? ⟨w.heap.size + 1 + 1, 2, none⟩ = false := (World.frozen?_of_block (hg1.block (w.heap.size + 1 + 1) (by simp <;> omega) (by simp))).trans (by go_simp);
    have rr2 : w1.cell? ⟨w.heap.size + 1, 2, none⟩ = some (.int .i64 0) := (World.cell?_of_block (hg1.block (w.heap.size + 1) (by simp <;> omega) (by simp))).trans (by go_simp);
    have rz2 : w1.frozen? ⟨w.heap.size + 1, 2, none⟩ = false := (World.frozen?_of_block (hg1.block (w.heap.size + 1) (by simp <;> omega) (by simp))).trans (by go_simp);
    have cc3 : w1.cell? ⟨w.heap.size + 1 + 1, 3, none⟩ = some (.int .i64 m) := (World.cell?_of_block (hg1.block (w.heap.size + 1 + 1) (by simp <;> omega) (by simp))).trans (by go_simp);
    have cz3 : w1.frozen? ⟨w.heap.size + 1 + 1, 3, none⟩ = false := (World.frozen?_of_block (hg1.block (w.heap.size + 1 + 1) (by simp <;> omega) (by simp))).trans (by go_simp);
    have rr3 : w1.cell? ⟨w.heap.size + 1, 3, none⟩ = some (.int .i64 0) := (World.cell?_of_block (hg1.block (w.heap.size + 1) (by simp <;> omega) (by simp))).trans (by go_simp);
    have rz3 : w1.frozen? ⟨w.heap.size + 1, 3, none⟩ = false := (World.frozen?_of_block (hg1.block (w.heap.size + 1) (by simp <;> omega) (by simp))).trans (by go_simp);
    have cc4 : w1.cell? ⟨w.heap.size + 1 + 1, 4, none⟩ = some (.slice o l c) := (World.cell?_of_block (hg1.block (w.heap.size + 1 + 1) (by simp <;> omega) (by simp))).trans (by go_simp);
    have cz4 : w1.frozen? ⟨w.heap.size + 1 + 1, 4, none⟩ = false := (World.frozen?_of_block (hg1.block (w.heap.size + 1 + 1) (by simp <;> omega) (by simp))).trans (by go_simp);
    have rr4 : w1.cell? ⟨w.heap.size + 1, 4, none⟩ = some (.slice none 0 0) := (World.cell?_of_block (hg1.block (w.heap.size + 1) (by simp <;> omega) (by simp))).trans (by go_simp);
    have rz4 : w1.frozen? ⟨w.heap.size + 1, 4, none⟩ = false := (World.frozen?_of_block (hg1.block (w.heap.size + 1) (by simp <;> omega) (by simp))).trans (by go_simp);
    have cc5 : w1.cell? ⟨w.heap.size + 1 + 1, 5, none⟩ = some (.string fk) := (World.cell?_of_block (hg1.block (w.heap.size + 1 + 1) (by simp <;> omega) (by simp))).trans (by go_simp);
    have cz5 : w1.frozen? ⟨w.heap.size + 1 + 1, 5, none⟩ = false := (World.frozen?_of_block (hg1.block (w.heap.size + 1 + 1) (by simp <;> omega) (by simp))).trans (by go_simp);
    have rr5 : w1.cell? ⟨w.heap.size + 1, 5, none⟩ = some (.string ⟨#[]⟩) := (World.cell?_of_block (hg1.block (w.heap.size + 1) (by simp <;> omega) (by simp))).trans (by go_simp);
    have rz5 : w1.frozen? ⟨w.heap.size + 1, 5, none⟩ = false := (World.frozen?_of_block (hg1.block (w.heap.size + 1) (by simp <;> omega) (by simp))).trans (by go_simp);
    have cc6 : w1.cell? ⟨w.heap.size + 1 + 1, 6, none⟩ = some (.int .i64 fa) := (World.cell?_of_block (hg1.block (w.heap.size + 1 + 1) (by simp <;> omega) (by simp))).trans (by go_simp);
    have cz6 : w1.frozen? ⟨w.heap.size + 1 + 1, 6, none⟩ = false := (World.frozen?_of_block (hg1.block (w.heap.size + 1 + 1) (by simp <;> omega) (by simp))).trans (by go_simp);
    have rr6 : w1.cell? ⟨w.heap.size + 1, 6, none⟩ = some (.int .i64 0) := (World.cell?_of_block (hg1.block (w.heap.size + 1) (by simp <;> omega) (by simp))).trans (by go_simp);
    have rz6 : w1.frozen? ⟨w.heap.size + 1, 6, none⟩ = false := (World.frozen?_of_block (hg1.block (w.heap.size + 1) (by simp <;> omega) (by simp))).trans (by go_simp);
    have cc7 : w1.cell? ⟨w.heap.size + 1 + 1, 7, none⟩ = some (.int .i64 fb) := (World.cell?_of_block (hg1.block (w.heap.size + 1 + 1) (by simp <;> omega) (by simp))).trans (by go_simp);
    have cz7 : w1.frozen? ⟨w.heap.size + 1 + 1, 7, none⟩ = false := (World.frozen?_of_block (hg1.block (w.heap.size + 1 + 1) (by simp <;> omega) (by simp))).trans (by go_simp);
    have rr7 : w1.cell? ⟨w.heap.size + 1, 7, none⟩ = some (.int .i64 0) := (World.cell?_of_block (hg1.block (w.heap.size + 1) (by simp <;> omega) (by simp))).trans (by go_simp);
    have rz7 : w1.frozen? ⟨w.heap.size + 1, 7, none⟩ = false := (World.frozen?_of_block (hg1.block (w.heap.size + 1) (by simp <;> omega) (by simp))).trans (by go_simp);
    have cc8 : w1.cell? ⟨w.heap.size + 1 + 1, 8, none⟩ = some (.string fc) := (World.cell?_of_block (hg1.block (w.heap.size + 1 + 1) (by simp <;> omega) (by simp))).trans (by go_simp);
    have cz8 : w1.frozen? ⟨w.heap.size + 1 + 1, 8, none⟩ = false := (World.frozen?_of_block (hg1.block (w.heap.size + 1 + 1) (by simp <;> omega) (by simp))).trans (by go_simp);
    have rr8 : w1.cell? ⟨w.heap.size + 1, 8, none⟩ = some (.string ⟨#[]⟩) := (World.cell?_of_block (hg1.block (w.heap.size + 1) (by simp <;> omega) (by simp))).trans (by go_simp);
    have rz8 : w1.frozen? ⟨w.heap.size + 1, 8, none⟩ = false := (World.frozen?_of_block (hg1.block (w.heap.size + 1) (by simp <;> omega) (by simp))).trans (by go_simp);
    have cc9 : w1.cell? ⟨w.heap.size + 1 + 1, 9, none⟩ = some (.string fd) := (World.cell?_of_block (hg1.block (w.heap.size + 1 + 1) (by simp <;> omega) (by simp))).trans (by go_simp);
    have cz9 : w1.frozen? ⟨w.heap.size + 1 + 1, 9, none⟩ = false := (World.frozen?_of_block (hg1.block (w.heap.size + 1 + 1) (by simp <;> omega) (by simp))).trans (by go_simp);
    have rr9 : w1.cell? ⟨w.heap.size + 1, 9, none⟩ = some (.string ⟨#[]⟩) := (World.cell?_of_block (hg1.block (w.heap.size + 1) (by simp <;> omega) (by simp))).trans (by go_simp);
    have rz9 : w1.frozen? ⟨w.heap.size + 1, 9, none⟩ = false := (World.frozen?_of_block (hg1.block (w.heap.size + 1) (by simp <;> omega) (by simp))).trans (by go_simp);
    have cc10 : w1.cell? ⟨w.heap.size + 1 + 1, 10, none⟩ = some (.slice o' kids.length c') := (World.cell?_of_block (hg1.block (w.heap.size + 1 + 1) (by simp <;> omega) (by simp))).trans (by go_simp);
    have cz10 : w1.frozen? ⟨w.heap.size + 1 + 1, 10, none⟩ = false := (World.frozen?_of_block (hg1.block (w.heap.size + 1 + 1) (by simp <;> omega) (by simp))).trans (by go_simp);
    have rr10 : w1.cell? ⟨w.heap.size + 1, 10, none⟩ = some (.slice none 0 0) := (World.cell?_of_block (hg1.block (w.heap.size + 1) (by simp <;> omega) (by simp))).trans (by go_simp);
    have rz10 : w1.frozen? ⟨w.heap.size + 1, 10, none⟩ = false := (World.frozen?_of_block (hg1.block (w.heap.size + 1) (by simp <;> omega) (by simp))).trans (by go_simp)))
  obtain ⟨W4, hW4⟩ : ∃ W4, W4 = (w1.setCell ⟨w.heap.size + 1 + 1, 4, none⟩ (.slice o9 l9 c9)).setCell ⟨w.heap.size + 1 + 1, 10, none⟩ (.slice none 0 0) := ⟨_, rfl⟩
  have ht4 : Tch (w.heap.size + 1 + 1) w1 W4 := by rw [hW4]; exact ((Tch.refl _ _).set _ _).set _ _
  have hcb : CB w.heap.size W4 (blkV op name n m (.slice o9 l9 c9) fk fa fb fc fd (.slice none 0 0)) := by
    refine ⟨fun j hj => ?_, fun j hj => ?_, fun j hj => ?_, fun j hj => ?_⟩
    · rw [hW4]; unfold blkV
      match j, hj with
      | 0, _ => go_simp; try rfl
      | 1, _ => go_simp; try rfl
      | 2, _ => go_simp; try rfl
      | 3, _ => go_simp; try rfl
      | 4, _ => go_simp; try rfl
      | 5, _ => go_simp; try rfl
      | 6, _ => go_simp; try rfl
      | 7, _ => go_simp; try rfl
      | 8, _ => go_simp; try rfl
      | 9, _ => go_simp; try rfl
      | 10, _ => go_simp; try rfl
    · rw [hW4]
      match j, hj with
      | 0, _ => go_simp
      | 1, _ => go_simp
      | 2, _ => go_simp
      | 3, _ => go_simp
      | 4, _ => go_simp
      | 5, _ => go_simp
      | 6, _ => go_simp
      | 7, _ => go_simp
      | 8, _ => go_simp
      | 9, _ => go_simp
      | 10, _ => go_simp
    · rw [World.cell?_of_block (w := w1) (ht4.block (w.heap.size + 1) (by omega))]
      match j, hj with
      | 0, _ => exact ⟨_, rr0⟩
      | 1, _ => exact ⟨_, rr1⟩
      | 2, _ => exact ⟨_, rr2⟩
      | 3, _ => exact ⟨_, rr3⟩
      | 4, _ => exact ⟨_, rr4⟩
      | 5, _ => exact ⟨_, rr5⟩
      | 6, _ => exact ⟨_, rr6⟩
      | 7, _ => exact ⟨_, rr7⟩
      | 8, _ => exact ⟨_, rr8⟩
      | 9, _ => exact ⟨_, rr9⟩
      | 10, _ => exact ⟨_, rr10⟩
    · rw [World.frozen?_of_block (w := w1) (ht4.block (w.heap.size + 1) (by omega))]
      match j, hj with
      | 0, _ => exact rz0
      | 1, _ => exact rz1
      | 2, _ => exact rz2
      | 3, _ => exact rz3
      | 4, _ => exact rz4
      | 5, _ => exact rz5
      | 6, _ => exact rz6
      | 7, _ => exact rz7
      | 8, _ => exact rz8
      | 9, _ => exact rz9
      | 10, _ => exact rz10
  rw [← hW4]
  clear hW4 kb hgs cc0 cz0 rr0 rz0 cc1 cz1 rr1 rz1 cc2 cz2 rr2 rz2 cc3 cz3 rr3 rz3 cc4 cz4 rr4 rz4 cc5 cz5 rr5 rz5 cc6 cz6 rr6 rz6 cc7 cz7 rr7 rz7 cc8 cz8 rr8 rz8 cc9 cz9 rr9 rz9 cc10 cz10 rr10 rz10
  obtain ⟨m0, hm0⟩ : ∃ m0, m0 = w1.heap.size := ⟨_, rfl⟩
  have hsm : w.heap.size + 3 ≤ m0 := by omega
  have hn0 : PRep Try.prog W4 (gR (w.heap.size + 3) m0) (.sl 38) (.sl nums) (.slice o9 l9 c9) := by
    refine hpn.ext (Nat.le_of_eq ht4.size.symm) fun b hb ht => ⟨gR_free.2 ?_, ht4.block b ?_⟩
    · have := gR_free.1 ht; omega
    · have := gR_free.1 ht; omega
  have hbel4 : Below w.heap.size w W4 := ⟨ht4.os.trans hb1.os, ht4.tape.trans hb1.tape, ht4.output.trans hb1.output, by rw [ht4.size]; exact hb1.size, fun b hb => (ht4.block b (by omega)).trans (hb1.block b hb)⟩
  go_loopw [15] (fun i wr => ∃ k : Nat, k ≤ kids.length ∧ i = .int .i64 k ∧ Below w.heap.size w wr ∧ m0 ≤ wr.heap.size ∧ PRep Try.prog wr (gR (w.heap.size + 3) m0) (.sl 38) (.sl nums) (.slice o9 l9 c9) ∧
      ∃ ok lk' ck xs f lf hf, CB w.heap.size wr (blkV op name n m (.slice o9 l9 c9) fk fa fb fc fd (.slice ok lk' ck)) ∧ KP wr m0 (kids.take k) (.slice ok lk' ck) xs f lf hf) (fun i _ => kids.length - (intOf i).toNat)
  case atStart => exact ⟨0, Nat.zero_le _, rfl, hbel4, by rw [ht4.size]; omega, hn0, none, 0, 0, [], _, _, _, hcb, KP.nil _ _⟩
  case round =>
    obtain ⟨k, hkl, rfl, hbw, hmw, hnw, ok, lk', ck, xs, f, lf, hf, hcw, hkp⟩ := hrel
    clear hcb ht4 hn0 hbel4 hg1 hb1 hpn hs1 hnb
    have hlk : kids.length < 9223372036854775807 := by unfold room at lk; omega
    by_cases hkn : k < kids.length
    · obtain ⟨y, bk, off, vy, hy, rfl, hbk, hpy, hcy⟩ := hkc k hkn
      have hmem : y ∈ kids := List.mem_of_getElem? hy
      have ihy := ih y hmem
      have hyb := hk y hmem
      clear ih hkc hk
      cases hyb with
      | mk op2 name2 n2 m2 nums2 fk2 fa2 fb2 fc2 fd2 kids2 hn2 hk2 ln2 lk2 =>
      obtain ⟨o5, l5, c5, o6, l6, c6, rfl, _, _⟩ := blk_open hpy
      have z0 : wr.cell? ⟨bk, off + k * 11, none⟩ = some (.string op2) := (hbw.cell hbk).trans (hcy 0 (by decide))
      have z1 : wr.cell? ⟨bk, off + k * 11 + 1, none⟩ = some (.string name2) := (hbw.cell hbk).trans (hcy 1 (by decide))
      have z2 : wr.cell? ⟨bk, off + k * 11 + 2, none⟩ = some (.int .i64 n2) := (hbw.cell hbk).trans (hcy 2 (by decide))
      have z3 : wr.cell? ⟨bk, off + k * 11 + 3, none⟩ = some (.int .i64 m2) := (hbw.cell hbk).trans (hcy 3 (by decide))
      have z4 : wr.cell? ⟨bk, off + k * 11 + 4, none⟩ = some (.slice o5 l5 c5) := (hbw.cell hbk).trans (hcy 4 (by decide))
      have z5 : wr.cell? ⟨bk, off + k * 11 + 5, none⟩ = some (.string fk2) := (hbw.cell hbk).trans (hcy 5 (by decide))
      have z6 : wr.cell? ⟨bk, off + k * 11 + 6, none⟩ = some (.int .i64 fa2) := (hbw.cell hbk).trans (hcy 6 (by decide))
      have z7 : wr.cell? ⟨bk, off + k * 11 + 7, none⟩ = some (.int .i64 fb2) := (hbw.cell hbk).trans (hcy 7 (by decide))
      have z8 : wr.cell? ⟨bk, off + k * 11 + 8, none⟩ = some (.string fc2) := (hbw.cell hbk).trans (hcy 8 (by decide))
      have z9 : wr.cell? ⟨bk, off + k * 11 + 9, none⟩ = some (.string fd2) := (hbw.cell hbk).trans (hcy 9 (by decide))
      have z10 : wr.cell? ⟨bk, off + k * 11 + 10, none⟩ = some (.slice o6 l6 c6) := (hbw.cell hbk).trans (hcy 10 (by decide))
      have kc10 : wr.cell? ⟨w.heap.size + 1 + 1, 10, none⟩ = some (.slice ok lk' ck) := hcw.c 10 (by decide)
      have cz10 : wr.frozen? ⟨w.heap.size + 1 + 1, 10, none⟩ = false := hcw.cz 10 (by decide)
      have hkn' : (k : Int) < (kids.length : Int) := by omega
      go_wp2_with fail
      obtain ⟨W5, hW5⟩ : ∃ W5, W5 = wr.alloc (.cells #[.string op2, .string name2, .int .i64 n2, .int .i64 m2, .slice o5 l5 c5, .string fk2, .int .i64 fa2, .int .i64 fb2, .string fc2, .string fd2, .slice o6 l6 c6] 27) := ⟨_, rfl⟩
      have hb5 : Below wr.heap.size wr W5 := by rw [hW5]; exact b_alloc (Below.refl _ _) _
      have hs5 : W5.heap.size = wr.heap.size + 1 := by rw [hW5]; simp
      have q0 : W5.cell? ⟨wr.heap.size, 0, none⟩ = some (.string op2) := by rw [hW5]; go_simp
      have q1 : W5.cell? ⟨wr.heap.size, 1, none⟩ = some (.string name2) := by rw [hW5]; go_simp
      have q2 : W5.cell? ⟨wr.heap.size, 2, none⟩ = some (.int .i64 n2) := by rw [hW5]; go_simp
      have q3 : W5.cell? ⟨wr.heap.size, 3, none⟩ = some (.int .i64 m2) := by rw [hW5]; go_simp
      have q4 : W5.cell? ⟨wr.heap.size, 4, none⟩ = some (.slice o5 l5 c5) := by rw [hW5]; go_simp
      have q5 : W5.cell? ⟨wr.heap.size, 5, none⟩ = some (.string fk2) := by rw [hW5]; go_simp
      have q6 : W5.cell? ⟨wr.heap.size, 6, none⟩ = some (.int .i64 fa2) := by rw [hW5]; go_simp
      have q7 : W5.cell? ⟨wr.heap.size, 7, none⟩ = some (.int .i64 fb2) := by rw [hW5]; go_simp
      have q8 : W5.cell? ⟨wr.heap.size, 8, none⟩ = some (.string fc2) := by rw [hW5]; go_simp
      have q9 : W5.cell? ⟨wr.heap.size, 9, none⟩ = some (.string fd2) := by rw [hW5]; go_simp
      have q10 : W5.cell? ⟨wr.heap.size, 10, none⟩ = some (.slice o6 l6 c6) := by rw [hW5]; go_simp
      rw [← hW5]
      clear hW5 z0 z1 z2 z3 z4 z5 z6 z7 z8 z9 z10
      have kc : W5.cell? ⟨w.heap.size + 1 + 1, 10, none⟩ = some (.slice ok lk' ck) := (hb5.cell (show w.heap.size + 1 + 1 < wr.heap.size by omega)).trans kc10
      have kz : W5.frozen? ⟨w.heap.size + 1 + 1, 10, none⟩ = false := (hb5.frozen (show w.heap.size + 1 + 1 < wr.heap.size by omega)).trans cz10
      have hkp5 := hkp.keep (w' := W5) (by omega) (fun b _ hb => hb5.block b hb)
      have hps : PRep Try.prog W5 g (.st 27) _ _ := hpy.ext (by omega) fun b hb ht => ⟨ht, (hb5.block b (by have := hbw.size; omega)).trans (hbw.block b hb)⟩
      clear kc10 cz10 hkp
      refine region_inv (fun X a w' => I7 w.heap.size m0 (fun t19 t20 t21 t22 t23 t24 t25 => ⟨#[.agg #[.string op, .string name, .int .i64 n, .int .i64 m, .slice o l c, .string fk, .int .i64 fa, .int .i64 fb, .string fc, .string fd, .slice (some ⟨bk, off, none⟩) kids.length c'], .pointer (some ⟨w.heap.size, 0, none⟩), .pointer (some ⟨w.heap.size + 1, 0, none⟩), .pointer (some ⟨w.heap.size + 1 + 1, 0, none⟩), undef, .pointer (some ⟨wr.heap.size, 0, none⟩), .agg #[.string op, .string name, .int .i64 n, .int .i64 m, .slice o l c, .string fk, .int .i64 fa, .int .i64 fb, .string fc, .string fd, .slice (some ⟨bk, off, none⟩) kids.length c'], .pointer (some ⟨w.heap.size, 4, none⟩), .slice o l c, .slice o9 l9 c9, .pointer (some ⟨w.heap.size + 1 + 1, 4, none⟩), .pointer (some ⟨w.heap.size + 1 + 1, 10, none⟩), .pointer (some ⟨w.heap.size, 10, none⟩), .slice (some ⟨bk, off, none⟩) kids.length c', .int .i64 (kids.length : Int), .int .i64 (k : Int), .bool true, .pointer (some ⟨bk, off + k * 11, none⟩), .agg #[.string op2, .string name2, .int .i64 n2, .int .i64 m2, .slice o5 l5 c5, .string fk2, .int .i64 fa2, .int .i64 fb2, .string fc2, .string fd2, .slice o6 l6 c6], t19, t20, t21, t22, t23, t24, t25, u26, undef], []⟩) W5.drew (kids.take k ++ [(blkP op2 name2 n2 m2 nums2 fk2 fa2 fb2 fc2 fd2 kids2)]) (blkP op2 name2 n2 m2 nums2 fk2 fa2 fb2 fc2 fd2 kids2) (.slice ok lk' ck) (.agg #[.string op2, .string name2, .int .i64 n2, .int .i64 m2, .slice o5 l5 c5, .string fk2, .int .i64 fa2, .int .i64 fb2, .string fc2, .string fd2, .slice o6 l6 c6]) (X 0) (X 1) (X 2) (X 3) (X 4) (X 5) (X 6) (X 7) a w') (by kernel_rfl) (by kernel_rfl) (by kernel_rfl) ?_ ?_ ?_
      · exact ⟨_, _, _, _, _, _, _, rfl, fun h => (by cases h), fun h => (by cases h), fun h => (by cases h), fun h => (by cases h), fun _ => rfl, fun h => (by cases h), fun h => (by cases h)⟩
      · intro i o ho
        match i, ho with
        | 0, ho =>
          obtain rfl := Option.some.inj ho
          rintro X a W K hX hpre ⟨t19, t20, t21, t22, t23, t24, t25, rfl, i0, i1, i2, i6, hw6, hw3, hw5⟩ hK
          go_simp
          apply hK
          simp only [Nat.reduceEqDiff, decide_false, decide_true, Bool.or_false, Bool.or_true]
          exact ⟨_, _, _, _, _, _, _, rfl, fun _ => rfl, i1, i2, i6, hw6, hw3, hw5⟩
        | 1, ho =>
          obtain rfl := Option.some.inj ho
          rintro X a W K hX hpre ⟨t19, t20, t21, t22, t23, t24, t25, rfl, i0, i1, i2, i6, hw6, hw3, hw5⟩ hK
          have x5 : X 5 = false := by
            cases h : X 5 with
            | false => rfl
            | true =>
              have c0 : X 1 = true := hpre.2 5 _ h rfl ⟨1, .data⟩ (by simp) rfl
              rw [hX] at c0; cases c0
          have hB := I7.below x5 hw6 hw3
          have z : W.cell? ⟨w.heap.size + 1 + 1, 10, none⟩ = some (.slice ok lk' ck) := (hB.cell (show w.heap.size + 1 + 1 < W5.heap.size by omega)).trans kc
          have d0 := i0 (hpre.1 ⟨0, .data⟩ (by simp) rfl)
          subst d0
          clear hps ihy hB hcw hkp5 q0 q1 q2 q3 q4 q5 q6 q7 q8 q9 q10
          go_simp
          apply hK
          simp only [Nat.reduceEqDiff, decide_false, decide_true, Bool.or_false, Bool.or_true]
          exact ⟨_, _, _, _, _, _, _, rfl, fun _ => rfl, fun _ => rfl, i2, i6, hw6, hw3, hw5⟩
        | 2, ho =>
          obtain rfl := Option.some.inj ho
          rintro X a W K hX hpre ⟨t19, t20, t21, t22, t23, t24, t25, rfl, i0, i1, i2, i6, hw6, hw3, hw5⟩ hK
          have x5 : X 5 = false := by
            cases h : X 5 with
            | false => rfl
            | true =>
              have c0 : X 3 = true := hpre.2 5 _ h rfl ⟨3, .chain⟩ (by simp) rfl
              have c1 : X 2 = true := hpre.2 3 _ c0 rfl ⟨2, .data⟩ (by simp) rfl
              rw [hX] at c1; cases c1
          have hB := I7.below x5 hw6 hw3
          have z0 : W.cell? ⟨wr.heap.size, 0, none⟩ = _ := (hB.cell (show wr.heap.size < W5.heap.size by omega)).trans q0
          have z1 : W.cell? ⟨wr.heap.size, 1, none⟩ = _ := (hB.cell (show wr.heap.size < W5.heap.size by omega)).trans q1
          have z2 : W.cell? ⟨wr.heap.size, 2, none⟩ = _ := (hB.cell (show wr.heap.size < W5.heap.size by omega)).trans q2
          have z3 : W.cell? ⟨wr.heap.size, 3, none⟩ = _ := (hB.cell (show wr.heap.size < W5.heap.size by omega)).trans q3
          have z4 : W.cell? ⟨wr.heap.size, 4, none⟩ = _ := (hB.cell (show wr.heap.size < W5.heap.size by omega)).trans q4
          have z5 : W.cell? ⟨wr.heap.size, 5, none⟩ = _ := (hB.cell (show wr.heap.size < W5.heap.size by omega)).trans q5
          have z6 : W.cell? ⟨wr.heap.size, 6, none⟩ = _ := (hB.cell (show wr.heap.size < W5.heap.size by omega)).trans q6
          have z7 : W.cell? ⟨wr.heap.size, 7, none⟩ = _ := (hB.cell (show wr.heap.size < W5.heap.size by omega)).trans q7
          have z8 : W.cell? ⟨wr.heap.size, 8, none⟩ = _ := (hB.cell (show wr.heap.size < W5.heap.size by omega)).trans q8
          have z9 : W.cell? ⟨wr.heap.size, 9, none⟩ = _ := (hB.cell (show wr.heap.size < W5.heap.size by omega)).trans q9
          have z10 : W.cell? ⟨wr.heap.size, 10, none⟩ = _ := (hB.cell (show wr.heap.size < W5.heap.size by omega)).trans q10
          clear hps ihy hB hcw hkp5 q0 q1 q2 q3 q4 q5 q6 q7 q8 q9 q10
          go_simp
          apply hK
          simp only [Nat.reduceEqDiff, decide_false, decide_true, Bool.or_false, Bool.or_true]
          exact ⟨_, _, _, _, _, _, _, rfl, i0, i1, fun _ => rfl, i6, hw6, hw3, hw5⟩
        | 3, ho =>
          obtain rfl := Option.some.inj ho
          rintro X a W K hX hpre ⟨t19, t20, t21, t22, t23, t24, t25, rfl, i0, i1, i2, i6, hw6, hw3, hw5⟩ hK
          have x4 : X 4 = false := by
            cases h : X 4 with
            | false => rfl
            | true =>
              have c0 : X 3 = true := hpre.2 4 _ h rfl ⟨3, .data⟩ (by simp) rfl
              rw [hX] at c0; cases c0
          have x5 : X 5 = false := by
            cases h : X 5 with
            | false => rfl
            | true =>
              have c0 : X 3 = true := hpre.2 5 _ h rfl ⟨3, .chain⟩ (by simp) rfl
              rw [hX] at c0; cases c0
          have hW := hw6 hX
          subst hW
          have d2 := i2 (hpre.1 ⟨2, .data⟩ (by simp) rfl)
          subst d2
          have hcall := ihy W5.drew g _ (hps.ext (Nat.le_refl _) fun b _ ht => ⟨ht, rfl⟩)
          clear hps ihy hcw hkp5 q0 q1 q2 q3 q4 q5 q6 q7 q8 q9 q10
          go_simp
          go_wp2_with (go_at_call 29; refine hcall.mono ?_; rintro e w' ⟨v3, rfl, hb3, ht3⟩)
          simp only [Nat.reduceEqDiff, decide_false, decide_true, Bool.or_false, Bool.or_true]
          exact ⟨_, _, _, _, _, _, _, rfl, i0, i1, fun _ => rfl, i6, fun h => (by cases h), fun _ => ⟨w', hb3, ht3, fun _ => rfl, fun h => (by rw [x4] at h; cases h)⟩, fun h => (by rw [x5] at h; cases h)⟩
        | 4, ho =>
          obtain rfl := Option.some.inj ho
          rintro X a W K hX hpre ⟨t19, t20, t21, t22, t23, t24, t25, rfl, i0, i1, i2, i6, hw6, hw3, hw5⟩ hK
          have x5 : X 5 = false := by
            cases h : X 5 with
            | false => rfl
            | true =>
              have c0 : X 4 = true := hpre.2 5 _ h rfl ⟨4, .data⟩ (by simp) rfl
              rw [hX] at c0; cases c0
          have d3 : X 3 = true := hpre.1 ⟨3, .data⟩ (by simp) rfl
          obtain ⟨W1, b1, b2, b3, b4⟩ := hw3 d3
          have hW := b3 hX
          subst hW
          obtain ⟨op3, name3, n3, m3, o7, l7, c7, fk3, fa3, fb3, fc3, fd3, o8, l8, c8, rfl⟩ := b2.isV
          unfold blkV at *
          clear hps ihy hcw hkp5 hw3 b3 b4 q0 q1 q2 q3 q4 q5 q6 q7 q8 q9 q10
          go_simp
          apply hK
          simp only [Nat.reduceEqDiff, decide_false, decide_true, Bool.or_false, Bool.or_true]
          exact ⟨_, _, _, _, _, _, _, rfl, i0, i1, i2, i6, fun h => (by rw [d3] at h; cases h), fun _ => ⟨_, b1, b2, fun h => (by cases h), fun _ => ⟨rfl, fun _ => rfl⟩⟩, fun h => (by rw [x5] at h; cases h)⟩
        | 5, ho =>
          obtain rfl := Option.some.inj ho
          rintro X a W K hX hpre ⟨t19, t20, t21, t22, t23, t24, t25, rfl, i0, i1, i2, i6, hw6, hw3, hw5⟩ hK
          have x7 : X 7 = false := by
            cases h : X 7 with
            | false => rfl
            | true =>
              have c0 : X 5 = true := hpre.2 7 _ h rfl ⟨5, .data⟩ (by simp) rfl
              rw [hX] at c0; cases c0
          have d3 : X 3 = true := hpre.1 ⟨3, .chain⟩ (by simp) rfl
          have d4 : X 4 = true := hpre.1 ⟨4, .data⟩ (by simp) rfl
          have d1 := i1 (hpre.1 ⟨1, .data⟩ (by simp) rfl)
          subst d1
          obtain ⟨W1, b1, b2, b3, b4⟩ := hw3 d3
          obtain ⟨rfl, b5⟩ := b4 d4
          have hW := b5 hX
          have hm1 := b1.size
          have hm1' : W5.heap.size ≤ W1.heap.size := hm1
          have hlen : (kids.take k).length = k := by rw [List.length_take]; omega
          have hkp1 := hkp5.keep (w' := W1) hm1' (fun b _ hb => b1.block b hb)
          have hown1 := hkp1.own
          obtain ⟨h11, hone⟩ := cells11 (b2.prep (g := gFree) fun _ _ _ _ => rfl)
          obtain ⟨oa, la, ca, wa, hra, hoa, hga, hba⟩ := app_kid hown1 (by omega) h11 hone (by rw [hlen]; omega) 25
          have hgs := hga.size
          have hgs' : W1.heap.size + 1 ≤ wa.heap.size := by simpa using hgs
          have hfin : Fin7 m0 W5.drew (kids.take k ++ [(blkP op2 name2 n2 m2 nums2 fk2 fa2 fb2 fc2 fd2 kids2)]) wa (.slice oa la ca) := by
            have hkeep : ∀ b, b < W1.heap.size → (Value.slice ok lk' ck).ownBlock ≠ some b → wa.heap[b]? = W1.heap[b]? := fun b hb hne => (hga.block b (by simp; omega) (fun e => hne e.symm)).trans (Below.heap_alloc _ _ _ hb)
            refine ⟨⟨_, _, _, _, hkp5.push (w := W5) (W1 := W1) (by omega) ⟨b1.os, b1.tape, b1.output, hm1, b1.block⟩ b2 hoa (by omega) (fun b hb _ hne => hkeep b hb hne) hba h11⟩, hga.os.trans b1.os, hga.tape.trans b1.tape, hga.output.trans b1.output, (by show W5.heap.size ≤ _; omega), fun b hb => ?_⟩
            rw [hkeep b (by omega) (fun e => by have := (hown1.lt b e).1; omega)]
            exact b1.block b (show b < W5.heap.size by omega)
          rw [hW]
          refine wp_kid (.tmp 20) (.tmp 23) rfl rfl rfl hra ?_
          apply hK
          simp only [Nat.reduceEqDiff, decide_false, decide_true, Bool.or_false, Bool.or_true]
          exact ⟨_, _, _, _, _, _, _, rfl, i0, fun _ => rfl, i2, i6, fun h => (by rw [d3] at h; cases h), fun _ => ⟨W1, b1, b2, fun h => (by rw [d4] at h; cases h), fun _ => ⟨rfl, fun h => (by cases h)⟩⟩, fun _ => ⟨_, _, _, wa, rfl, hfin, fun _ => rfl, fun h => (by rw [x7] at h; cases h)⟩⟩
        | 6, ho =>
          obtain rfl := Option.some.inj ho
          rintro X a W K hX hpre ⟨t19, t20, t21, t22, t23, t24, t25, rfl, i0, i1, i2, i6, hw6, hw3, hw5⟩ hK
          go_simp
          apply hK
          simp only [Nat.reduceEqDiff, decide_false, decide_true, Bool.or_false, Bool.or_true]
          exact ⟨_, _, _, _, _, _, _, rfl, i0, i1, i2, fun _ => rfl, hw6, hw3, hw5⟩
        | 7, ho =>
          obtain rfl := Option.some.inj ho
          rintro X a W K hX hpre ⟨t19, t20, t21, t22, t23, t24, t25, rfl, i0, i1, i2, i6, hw6, hw3, hw5⟩ hK
          have d5 : X 5 = true := hpre.1 ⟨5, .data⟩ (by simp) rfl
          have d3 : X 3 = true := hpre.1 ⟨3, .phase⟩ (by simp) rfl
          have d4 : X 4 = true := hpre.1 ⟨4, .phase⟩ (by simp) rfl
          have d6 := i6 (hpre.1 ⟨6, .data⟩ (by simp) rfl)
          subst d6
          obtain ⟨oa, la, ca, w0, rfl, hfin, e1, e2⟩ := hw5 d5
          have hW := e1 hX
          subst hW
          have kz' : W.frozen? ⟨w.heap.size + 1 + 1, 10, none⟩ = false := (World.frozen?_of_block (w := W5) (hfin.2.2.2.2.2 (w.heap.size + 1 + 1) (by omega))).trans kz
          have kc' : W.cell? ⟨w.heap.size + 1 + 1, 10, none⟩ = some (.slice ok lk' ck) := (World.cell?_of_block (w := W5) (hfin.2.2.2.2.2 (w.heap.size + 1 + 1) (by omega))).trans kc
          clear hps ihy hcw hkp5 hw5 e1 e2 kz kc q0 q1 q2 q3 q4 q5 q6 q7 q8 q9 q10
          go_simp
          apply hK
          simp only [Nat.reduceEqDiff, decide_false, decide_true, Bool.or_false, Bool.or_true]
          exact ⟨_, _, _, _, _, _, _, rfl, i0, i1, i2, fun _ => rfl, fun h => (by rw [d3] at h; cases h), fun h => (by obtain ⟨W1, b1, b2, b3, b4⟩ := hw3 h; exact ⟨W1, b1, b2, fun h => (by rw [d4] at h; cases h), fun h => ⟨(b4 h).1, fun h => (by rw [d5] at h; cases h)⟩⟩), fun _ => ⟨_, _, _, W, rfl, hfin, fun h => (by cases h), fun _ => rfl⟩⟩
        | i + 8, ho => simp at ho
      · intro X a V hX
        rintro ⟨t19, t20, t21, t22, t23, t24, t25, rfl, i0, i1, i2, i6, hw6, hw3, hw5⟩
        have hall : ∀ k, k < 8 → X k = true := hX
        obtain ⟨oa, la, ca, w0, rfl, ⟨⟨xs', f', lf', hf', hkp'⟩, e1, e2, e3, e4, e5⟩, _, hV⟩ := hw5 (hall 5 (by decide))
        have hV := hV (hall 7 (by decide))
        have ht := (Tch.refl (w.heap.size + 1 + 1) w0).set 10 (.slice oa la ca)
        rw [← hV] at ht
        have hs4 : W5.heap.size ≤ w0.heap.size := e4
        have hVw : ∀ b, b < m0 → b ≠ w.heap.size + 1 + 1 → V.heap[b]? = wr.heap[b]? := fun b hb hne => (ht.block b hne).trans ((e5 b hb).trans (hb5.block b (by omega)))
        have hkpV := hkp'.keep (w' := V) (Nat.le_of_eq ht.size.symm) (fun b hb _ => ht.block b (by omega))
        have hbV : Below w.heap.size w V := ⟨ht.os.trans (e1.trans (hb5.os.trans hbw.os)), ht.tape.trans (e2.trans (hb5.tape.trans hbw.tape)), ht.output.trans (e3.trans (hb5.output.trans hbw.output)), by rw [ht.size]; have := hbw.size; omega, fun b hb => (hVw b (by omega) (by omega)).trans (hbw.block b hb)⟩
        have hnV : PRep Try.prog V (gR (w.heap.size + 3) m0) (.sl 38) (.sl nums) (.slice o9 l9 c9) := hnw.ext (by rw [ht.size]; omega) fun b hb hbt => ⟨hbt, hVw b (gR_free.1 hbt).2 (by have := gR_free.1 hbt; omega)⟩
        have hcV : CB w.heap.size V (blkV op name n m (.slice o9 l9 c9) fk fa fb fc fd (.slice oa la ca)) := by
          have hblk : w0.heap[w.heap.size + 1 + 1]? = wr.heap[w.heap.size + 1 + 1]? := (e5 _ (by omega)).trans (hb5.block (w.heap.size + 1 + 1) (by omega))
          have y0 : w0.cell? ⟨w.heap.size + 1 + 1, 0, none⟩ = some (.string op) := (World.cell?_of_block (w := wr) hblk).trans (hcw.c 0 (by decide))
          have y1 : w0.cell? ⟨w.heap.size + 1 + 1, 1, none⟩ = some (.string name) := (World.cell?_of_block (w := wr) hblk).trans (hcw.c 1 (by decide))
          have y2 : w0.cell? ⟨w.heap.size + 1 + 1, 2, none⟩ = some (.int .i64 n) := (World.cell?_of_block (w := wr) hblk).trans (hcw.c 2 (by decide))
          have y3 : w0.cell? ⟨w.heap.size + 1 + 1, 3, none⟩ = some (.int .i64 m) := (World.cell?_of_block (w := wr) hblk).trans (hcw.c 3 (by decide))
          have y4 : w0.cell? ⟨w.heap.size + 1 + 1, 4, none⟩ = some (.slice o9 l9 c9) := (World.cell?_of_block (w := wr) hblk).trans (hcw.c 4 (by decide))
          have y5 : w0.cell? ⟨w.heap.size + 1 + 1, 5, none⟩ = some (.string fk) := (World.cell?_of_block (w := wr) hblk).trans (hcw.c 5 (by decide))
          have y6 : w0.cell? ⟨w.heap.size + 1 + 1, 6, none⟩ = some (.int .i64 fa) := (World.cell?_of_block (w := wr) hblk).trans (hcw.c 6 (by decide))
          have y7 : w0.cell? ⟨w.heap.size + 1 + 1, 7, none⟩ = some (.int .i64 fb) := (World.cell?_of_block (w := wr) hblk).trans (hcw.c 7 (by decide))
          have y8 : w0.cell? ⟨w.heap.size + 1 + 1, 8, none⟩ = some (.string fc) := (World.cell?_of_block (w := wr) hblk).trans (hcw.c 8 (by decide))
          have y9 : w0.cell? ⟨w.heap.size + 1 + 1, 9, none⟩ = some (.string fd) := (World.cell?_of_block (w := wr) hblk).trans (hcw.c 9 (by decide))
          have y10 : w0.cell? ⟨w.heap.size + 1 + 1, 10, none⟩ = some (.slice ok lk' ck) := (World.cell?_of_block (w := wr) hblk).trans (hcw.c 10 (by decide))
          have hbl1 : V.heap[w.heap.size + 1]? = wr.heap[w.heap.size + 1]? := hVw (w.heap.size + 1) (by omega) (by omega)
          refine ⟨fun j hj => ?_, fun j hj => ?_, fun j hj => by rw [World.cell?_of_block (w := wr) hbl1]; exact hcw.r j hj, fun j hj => by rw [World.frozen?_of_block (w := wr) hbl1]; exact hcw.rz j hj⟩
          · rw [hV]; unfold blkV
            match j, hj with
            | 0, _ => go_simp; try rfl
            | 1, _ => go_simp; try rfl
            | 2, _ => go_simp; try rfl
            | 3, _ => go_simp; try rfl
            | 4, _ => go_simp; try rfl
            | 5, _ => go_simp; try rfl
            | 6, _ => go_simp; try rfl
            | 7, _ => go_simp; try rfl
            | 8, _ => go_simp; try rfl
            | 9, _ => go_simp; try rfl
            | 10, _ => go_simp; try rfl
          · have hz := (World.frozen?_of_block (w := wr) (a := ⟨w.heap.size + 1 + 1, j, none⟩) hblk).trans (hcw.cz j hj)
            rw [hV]; go_simp
        have htk : kids.take (k + 1) = kids.take k ++ [(blkP op2 name2 n2 m2 nums2 fk2 fa2 fb2 fc2 fd2 kids2)] := by rw [List.take_add_one, hy]; rfl
        rw [← htk] at hkpV
        have hmV : m0 ≤ V.heap.size := by rw [ht.size]; omega
        clear hV hw5 hw3 hw6 i0 i1 i2 i6 ht hall hX hcw hkp5 hkp' e1 e2 e3 e4 e5 hVw hps ihy hnw hbw q0 q1 q2 q3 q4 q5 q6 q7 q8 q9 q10
        go_wp2_with fail
        go_roundw
        case rel => exact ⟨k + 1, by omega, by go_num, hbV, hmV, hnV, _, _, _, _, _, _, _, hcV, hkpV⟩
        case measure => simp [intOf]; omega
    · have : k = kids.length := by omega
      subst this
      have kc0 : wr.cell? ⟨w.heap.size + 1 + 1, 0, none⟩ = some (.string op) := hcw.c 0 (by decide)
      obtain ⟨r0, kr0⟩ := hcw.r 0 (by decide)
      have kz0 := hcw.rz 0 (by decide)
      have kc1 : wr.cell? ⟨w.heap.size + 1 + 1, 1, none⟩ = some (.string name) := hcw.c 1 (by decide)
      obtain ⟨r1, kr1⟩ := hcw.r 1 (by decide)
      have kz1 := hcw.rz 1 (by decide)
      have kc2 : wr.cell? ⟨w.heap.size + 1 + 1, 2, none⟩ = some (.int .i64 n) := hcw.c 2 (by decide)
      obtain ⟨r2, kr2⟩ := hcw.r 2 (by decide)
      have kz2 := hcw.rz 2 (by decide)
      have kc3 : wr.cell? ⟨w.heap.size + 1 + 1, 3, none⟩ = some (.int .i64 m) := hcw.c 3 (by decide)
      obtain ⟨r3, kr3⟩ := hcw.r 3 (by decide)
      have kz3 := hcw.rz 3 (by decide)
      have kc4 : wr.cell? ⟨w.heap.size + 1 + 1, 4, none⟩ = some (.slice o9 l9 c9) := hcw.c 4 (by decide)
      obtain ⟨r4, kr4⟩ := hcw.r 4 (by decide)
      have kz4 := hcw.rz 4 (by decide)
      have kc5 : wr.cell? ⟨w.heap.size + 1 + 1, 5, none⟩ = some (.string fk) := hcw.c 5 (by decide)
      obtain ⟨r5, kr5⟩ := hcw.r 5 (by decide)
      have kz5 := hcw.rz 5 (by decide)
      have kc6 : wr.cell? ⟨w.heap.size + 1 + 1, 6, none⟩ = some (.int .i64 fa) := hcw.c 6 (by decide)
      obtain ⟨r6, kr6⟩ := hcw.r 6 (by decide)
      have kz6 := hcw.rz 6 (by decide)
      have kc7 : wr.cell? ⟨w.heap.size + 1 + 1, 7, none⟩ = some (.int .i64 fb) := hcw.c 7 (by decide)
      obtain ⟨r7, kr7⟩ := hcw.r 7 (by decide)
      have kz7 := hcw.rz 7 (by decide)
      have kc8 : wr.cell? ⟨w.heap.size + 1 + 1, 8, none⟩ = some (.string fc) := hcw.c 8 (by decide)
      obtain ⟨r8, kr8⟩ := hcw.r 8 (by decide)
      have kz8 := hcw.rz 8 (by decide)
      have kc9 : wr.cell? ⟨w.heap.size + 1 + 1, 9, none⟩ = some (.string fd) := hcw.c 9 (by decide)
      obtain ⟨r9, kr9⟩ := hcw.r 9 (by decide)
      have kz9 := hcw.rz 9 (by decide)
      have kc10 : wr.cell? ⟨w.heap.size + 1 + 1, 10, none⟩ = some (.slice ok lk' ck) := hcw.c 10 (by decide)
      obtain ⟨r10, kr10⟩ := hcw.r 10 (by decide)
      have kz10 := hcw.rz 10 (by decide)
      have hs4 : w.heap.size + 1 < wr.heap.size := by omega
      clear hkc ih hk
      go_wp2_with fail
      (try simp only [Exit.inBlock, Exit.then])
      refine bodyPost_ret (by simp [results, Try.results29, go_sem, kr0, kr1, kr2, kr3, kr4, kr5, kr6, kr7, kr8, kr9, kr10]; try rfl) rfl ?_
      have h5 := (((((((((((Tch.refl (w.heap.size + 1) wr).set 0 (.string op)).set 1 (.string name)).set 2 (.int .i64 n)).set 3 (.int .i64 m)).set 4 (.slice o9 l9 c9)).set 5 (.string fk)).set 6 (.int .i64 fa)).set 7 (.int .i64 fb)).set 8 (.string fc)).set 9 (.string fd)).set 10 (.slice ok lk' ck)
      rw [List.take_length] at hkp
      have hkpV := hkp.keep (Nat.le_of_eq h5.size.symm) (fun b hb _ => h5.block b (by omega))
      have hsw := hbw.size
      refine ⟨_, rfl, ⟨h5.os.trans hbw.os, h5.tape.trans hbw.tape, h5.output.trans hbw.output, by rw [h5.size]; exact hsw, fun b hb => (h5.block b (by omega)).trans (hbw.block b hb)⟩, ?_⟩
      refine OTree.mk w.heap.size _ m0 op name n m nums fk fa fb fc fd o9 l9 c9 ok lk' ck kids xs f lf hf ⟨by omega, by rw [h5.size]; exact hmw⟩ (hnw.ext (Nat.le_of_eq h5.size.symm) fun b hb hbt => ?_) hkpV.own (fun b hb => (hkpV.own.lt b hb).2) hkpV.isv hkpV.cell hkpV.rng hkpV.sep hkpV.kid
      have hbt' := gR_free.1 hbt
      exact ⟨gR_free.2 (by omega), h5.block b (by omega)⟩
end Go.V

set_option maxRecDepth 100000
set_option linter.unusedSimpArgs false
set_option linter.unusedVariables false
namespace Go.V
open Go.Proofs Go.RowKit

/-- y is t with x at the place ps. -/
inductive PutR : PV → List Nat → PV → PV → Prop
  | nil (t x : PV) : PutR t [] x x
  | cons (op name : ByteArray) (n m : Int) (nums : List PV) (fk : ByteArray) (fa fb : Int) (fc fd : ByteArray) (kids : List PV) (k : Nat) (z z' : PV) (ps : List Nat) (x : PV) (hk : kids[k]? = some z) (h : PutR z ps x z') :
      PutR (blkP op name n m nums fk fa fb fc fd kids) (k :: ps) x (blkP op name n m nums fk fa fb fc fd (kids.set k z'))

/-- How the place lies in memory. -/
def PathRep (w : World) (lo hi : Nat) (pl : Option Addr) (pc : Nat) (ps : List Nat) : Prop :=
  ps.length ≤ pc ∧ (ps = [] ∨ ∃ pb po, pl = some ⟨pb, po, none⟩ ∧ pb < w.heap.size ∧ ¬ (lo ≤ pb ∧ pb < hi) ∧ ∀ (i n : Nat), ps[i]? = some n → w.cell? ⟨pb, po + i, none⟩ = some (.int .i64 n))

theorem put_c {t : PV} {ps : List Nat} {x y : PV} (h : PutR t ps x y) : ∀ (w : World) (lo hi : Nat) (v : Value), OTree w lo hi t v → hi ≤ w.heap.size → ∀ (xlo xhi : Nat) (vx : Value), PRep Try.prog w (gR xlo xhi) (.st 27) x vx → IsV vx → xhi ≤ w.heap.size → (xhi ≤ lo ∨ hi ≤ xlo) →
    ∀ (pl : Option Addr) (pc : Nat), PathRep w lo hi pl pc ps → Calls Try.prog 30 #[v, .slice pl ps.length pc, vx] w fun e w' =>
      ∃ v3 S, e = .returned v3 ∧ IsV v3 ∧ Wrt lo hi w w' ∧ PRep Try.prog w' (gS S) (.st 27) y v3 ∧ ∀ b, S b → b < w'.heap.size ∧ (((lo ≤ b ∧ b < hi) ∨ (xlo ≤ b ∧ b < xhi)) ∨ w.heap.size ≤ b) := by
  induction h with
  | nil t x =>
    intro w lo hi v ot hhi xlo xhi vx hx hvx hxs hap pl pc hp
    have hxv := hvx
    obtain ⟨op, name, n, m, o1, l1, c1, fk, fa, fb, fc, fd, o2, l2, c2, rfl⟩ := ot.isV
    obtain ⟨op', name', n', m', o3, l3, c3, fk', fa', fb', fc', fd', o4, l4, c4, rfl⟩ := hvx
    refine (put_zero w op name n m o1 l1 c1 fk fa fb fc fd o2 l2 c2 pl pc op' name' n' m' o3 l3 c3 fk' fa' fb' fc' fd' o4 l4 c4).mono ?_
    rintro e w' ⟨rfl, hb⟩
    refine ⟨_, fun b => xlo ≤ b ∧ b < xhi, rfl, hxv, .of_below hb, hx.ext hb.size fun b hlt ht => ⟨gS_free.2 (gR_free.1 ht), hb.block b hlt⟩, fun b hS => ⟨?_, .inl (.inr hS)⟩⟩
    have := hb.size
    omega
  | cons op name n m nums fk fa fb fc fd kids k z z' ps x hk h ih =>
    intro w lo hi v ot hhi xlo xhi vx hx hvx hxs hap pl pc hp
    obtain ⟨hpc, hp⟩ := hp
    obtain ⟨pb, po, rfl, hpb, hpn, hpi⟩ : ∃ pb po, pl = some ⟨pb, po, none⟩ ∧ pb < w.heap.size ∧ ¬ (lo ≤ pb ∧ pb < hi) ∧ ∀ (i n : Nat), (k :: ps)[i]? = some n → w.cell? ⟨pb, po + i, none⟩ = some (.int .i64 n) := by
      rcases hp with hp | hp
      · cases hp
      · exact hp
    cases ot with
    | mk lo hi m0 op name n m nums fk fa fb fc fd on ln cn ok lk ck kids xs f l h hm hn hown hb hv hc hl hs hkt =>
    have hkn : k < kids.length := (List.getElem?_eq_some_iff.1 hk).1
    rcases hown.2 with ⟨h1, h2⟩ | ⟨B, cap, cur, h1, h2, h3, h4, h5, h6, h7⟩
    · omega
    · simp only [Value.slice.injEq] at h1
      obtain ⟨rfl, rfl, rfl⟩ := h1
      have hBhi : B < hi := hb B rfl
      obtain ⟨a1, a2, a3, a4⟩ := hl k hkn
      have hkB := a4 B rfl
      have hfk := hv k hkn
      have hck := hc k hkn
      have hotk := hkt k z hk
      obtain ⟨op2, name2, n2, m2, o5, l5, c5, fk2, fa2, fb2, fc2, fd2, o6, l6, c6, hf⟩ := hfk
      have hxv := hvx
      obtain ⟨op', name', n', m', o3, l3, c3, fk', fa', fb', fc', fd', o4, l4, c4, rfl⟩ := hvx
      have hcellB : ∀ j, w.cell? ⟨B, j, none⟩ = cur[j]? := fun j => cell_of_row w B j cur 27 (0, 0) h3
      have hxs11 : ∀ i j, i < kids.length → j < 11 → w.cell? ⟨B, i * 11 + j, none⟩ = xs[i * 11 + j]? := by
        intro i j hi hj
        exact hown.cellAt (i * 11 + j) (by have : i * 11 + 11 ≤ kids.length * 11 := by omega
                                           omega)
      have hpcl : ps.length + 1 ≤ pc := by simpa using hpc
      obtain ⟨po1, hpo⟩ : ∃ po1, (pc = 1 ∧ po1 = po) ∨ (1 < pc ∧ po1 = po + 1) := by
        by_cases hp1 : pc = 1
        · exact ⟨po, .inl ⟨hp1, rfl⟩⟩
        · exact ⟨po + 1, .inr ⟨by omega, rfl⟩⟩
      refine (put_step w op name n m on ln cn fk fa fb fc fd B kids.length ck pb po ps.length pc k hkn op' name' n' m' o3 l3 c3 fk' fa' fb' fc' fd' o4 l4 c4 (hpi 0 k rfl) hpcl po1 hpo
        op2 name2 n2 m2 o5 l5 c5 fk2 fa2 fb2 fc2 fd2 o6 l6 c6 (l k) (h k) (by omega) hkB (by omega) (fun j => by simp [World.frozen?, h3]) (fun b => (l k ≤ b ∧ b < h k) ∨ (xlo ≤ b ∧ b < xhi)) (fun b hob => ⟨by omega, fun e => by rw [e] at hob; rcases hob with hob | hob; exact hkB hob; omega⟩) z'
        (fun W hW => ?_) (fun j hj => ?_)).mono ?_
      · have hss := hW.size
        have hot' : OTree W (l k) (h k) z (f k) := hotk.ext hss fun b _ hb => hW.block b (by omega)
        rw [hf] at hot'
        refine ih W (l k) (h k) _ hot' (by omega) xlo xhi _ (hx.ext hss fun b hb ht => ⟨ht, hW.block b hb⟩) hxv (by omega) (by omega) _ _ ⟨by omega, ?_⟩
        rcases hpo with ⟨e1, e2⟩ | ⟨e1, e2⟩
        · exact .inl (List.eq_nil_of_length_eq_zero (by omega))
        · refine .inr ⟨pb, po1, rfl, by omega, by omega, fun i n hi => ?_⟩
          have := hpi (i + 1) n (by simpa using hi)
          rw [hW.cell hpb, e2, show po + 1 + i = po + (i + 1) by omega]
          exact this
      · rw [hxs11 k j hkn hj, hck j hj, hf]; rfl
      · rintro e w' ⟨v3, S, rfl, hv3, hr, hS, e1, e2, e3, e4, hkeep, hnew, hrest⟩
        have hBw : B < w.heap.size := by omega
        refine ⟨_, fun b => S b ∨ ((lo ≤ b ∧ b < hi) ∧ ¬ (l k ≤ b ∧ b < h k)), rfl, ⟨op, name, n, m, on, ln, cn, fk, fa, fb, fc, fd, _, _, _, rfl⟩, ⟨e1, e2, e3, e4, fun b hb hnb => hkeep b hb (by omega) (by omega)⟩, ?_, fun b hb => ?_⟩
        · refine rep_blk (hn.ext e4 fun b hbs ht => ⟨gS_free.2 (.inr ?_), hkeep b hbs ?_ ?_⟩) ?_
          · have := gR_free.1 ht; omega
          · have := gR_free.1 ht; omega
          · have := gR_free.1 ht; omega
          · have hlen : (kids.set k z').length = kids.length := List.length_set
            rw [← hlen]
            refine .sl 27 (kids.set k z') B 0 ck (fun i => if i = k then v3 else f i) (fun i u hu => ?_) (fun i hi j hj => ?_) (gS_free.2 (.inr ⟨by omega, hkB⟩)) (by omega) (by rw [hlen]; exact h4)
            · rw [tBlk]
              by_cases hik : i = k
              · subst hik
                rw [List.getElem?_set_self hkn] at hu
                cases hu
                simp only [if_true]
                exact hr.ext (Nat.le_refl _) fun b _ ht => ⟨gS_free.2 (.inl (gS_free.1 ht)), rfl⟩
              · rw [List.getElem?_set_ne (fun e => hik e.symm)] at hu
                simp only [hik, if_false]
                have hik' := (List.getElem?_eq_some_iff.1 hu).1
                obtain ⟨i1, i2, i3, i4⟩ := hl i hik'
                have hiB := i4 B rfl
                have hsk := hs i k hik' hkn hik
                refine ((hkt i u hu).ext (w' := w') e4 fun b hb1 hb2 => hkeep b (by omega) (by omega) (by omega)).prep fun b hb1 hb2 _ => gS_free.2 (.inr (by omega))
            · rw [nBlk] at hj ⊢
              rw [hlen] at hi
              rw [Nat.zero_add]
              by_cases hik : i = k
              · subst hik
                simp only [if_true]
                exact hnew j hj
              · simp only [hik, if_false]
                rw [hrest _ (by omega), hxs11 i j hi hj]
                exact hc i hi j hj
        · rcases hb with hb | hb
          · obtain ⟨b1, b2⟩ := hS b hb
            exact ⟨b1, by omega⟩
          · exact ⟨by omega, by omega⟩
end Go.V

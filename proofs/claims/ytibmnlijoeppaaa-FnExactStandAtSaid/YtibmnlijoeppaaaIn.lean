/-
 A plan that comes in: how it lies in the world, and an abstract memory that reads it.
-/
import Derived.Test.YtibmnlijoeppaaaInW
namespace Go.Proofs.Ytibmnlijoeppaaa
open Go.ChangeShapes Go.WideShapes Go.ChangeAt Go.RowKit
set_option linter.unusedSimpArgs false
set_option linter.unusedVariables false

def svals (s : PStep) : List Value := [.int .i64 s.op, .int .i64 s.a, .int .i64 s.b, .int .i64 s.n, .int .i64 s.size]

/-- A body's steps in the world. -/
def SW (W : World) (v : Value) (b : List PStep) : Prop :=
 (b = [] ∧ (v = .slice none 0 0 ∨ ∃ a k, v = .slice (some a) 0 k)) ∨ ∃ a cap, b ≠ [] ∧ v = .slice (some a) b.length cap ∧ Win W a (b.flatMap svals)

/-- A plan in the world. -/
def PW (W : World) (v : Value) (p : PPlan) : Prop :=
 (p = [] ∧ (v = .slice none 0 0 ∨ ∃ a k, v = .slice (some a) 0 k)) ∨
 ∃ a cap vs, p ≠ [] ∧ v = .slice (some a) p.length cap ∧ vs.length = p.length ∧ Win W a vs ∧ ∀ (i : Nat) (x : Value) (b : List PStep), vs[i]? = some x → p[i]? = some b → SW W x b

section
variable {H : Type} {enc : TypeId × Value → H} {W : World} {base : Nat} {spare : Nat → Bool} {held : Bool}

theorem cells5 : Try.prog.cellsOf 181 = 5 := by kernel_rfl

theorem cells1 : Try.prog.cellsOf 124 = 1 := by kernel_rfl

theorem cells23 : Try.prog.cellsOf 23 = 1 := by kernel_rfl

theorem cells122 : Try.prog.cellsOf 122 = 1 := by kernel_rfl

theorem cells25 : Try.prog.cellsOf 25 = 1 := by kernel_rfl

theorem cells3 : Try.prog.cellsOf 3 = 1 := by kernel_rfl

theorem cells2 : Try.prog.cellsOf 2 = 1 := by kernel_rfl

set_option maxRecDepth 100000 in
theorem open_step {fuel : Nat} {cs : List Value} {x : DataW H × List MemPlace} (h : DataW.trod enc Try.prog W base spare held fuel 181 cs = some x) : ∃ s : PStep, cs = svals s := by
 obtain ⟨xs, n, _, _, hl, hxl, hf⟩ := DataW.trod_struct Try.underlying181 h
 rw [cells5] at hl
 obtain ⟨c0, c1, c2, c3, c4, rfl⟩ := five_of hl
 ·have get : ∀ (i : Nat) (f : Field), i < 5 → ∃ y, xs[i]? = some y := by
   intro i f hi
   exact ⟨_, List.getElem?_eq_getElem (by rw [hxl]; exact hi)⟩
  have k3 : Try.prog.underlying 3 = some (.int .i64) := Try.underlying3
  have k2 : Try.prog.underlying 2 = some (.int .i64) := Try.underlying2
  have f0 : DataW.trod enc Try.prog W base spare held n 3 (([c0, c1, c2, c3, c4].drop 0).take (Try.prog.cellsOf 3)) = xs[0]? := hf 0 _ rfl
  have f1 : DataW.trod enc Try.prog W base spare held n 3 (([c0, c1, c2, c3, c4].drop 1).take (Try.prog.cellsOf 3)) = xs[1]? := hf 1 _ rfl
  have f2 : DataW.trod enc Try.prog W base spare held n 3 (([c0, c1, c2, c3, c4].drop 2).take (Try.prog.cellsOf 3)) = xs[2]? := hf 2 _ rfl
  have f3 : DataW.trod enc Try.prog W base spare held n 2 (([c0, c1, c2, c3, c4].drop 3).take (Try.prog.cellsOf 2)) = xs[3]? := hf 3 _ rfl
  have f4 : DataW.trod enc Try.prog W base spare held n 3 (([c0, c1, c2, c3, c4].drop 4).take (Try.prog.cellsOf 3)) = xs[4]? := hf 4 _ rfl
  obtain ⟨y0, e0⟩ := get 0 default (by omega)
  obtain ⟨y1, e1⟩ := get 1 default (by omega)
  obtain ⟨y2, e2⟩ := get 2 default (by omega)
  obtain ⟨y3, e3⟩ := get 3 default (by omega)
  obtain ⟨y4, e4⟩ := get 4 default (by omega)
  rw [e0] at f0; rw [e1] at f1; rw [e2] at f2; rw [e3] at f3; rw [e4] at f4
  simp only [cells3, cells2, List.drop_zero, List.drop_succ_cons, List.take_succ_cons, List.take_zero] at f0 f1 f2 f3 f4
  obtain ⟨n0, g0, _⟩ := DataW.trod_int k3 f0
  obtain ⟨n1, g1, _⟩ := DataW.trod_int k3 f1
  obtain ⟨n2, g2, _⟩ := DataW.trod_int k3 f2
  obtain ⟨n3, g3, _⟩ := DataW.trod_int k2 f3
  obtain ⟨n4, g4, _⟩ := DataW.trod_int k3 f4
  simp only [List.cons.injEq, and_true] at g0 g1 g2 g3 g4
  subst g0 g1 g2 g3 g4
  exact ⟨⟨n0, n1, n2, n3, n4⟩, rfl⟩

theorem flat_get : ∀ {b : List PStep} {j k : Nat} {s : PStep}, b[j]? = some s → k < 5 → (b.flatMap svals)[j * 5 + k]? = (svals s)[k]?
 | [], j, k, s, h, _ => by simp at h
 | t :: b, 0, k, s, h, hk => by
  simp only [List.getElem?_cons_zero, Option.some.injEq] at h
  subst h
  rw [List.flatMap_cons, Nat.zero_mul, Nat.zero_add, List.getElem?_append_left (by exact hk)]
 | t :: b, j + 1, k, s, h, hk => by
  simp only [List.getElem?_cons_succ] at h
  rw [List.flatMap_cons, List.getElem?_append_right (by have : (svals t).length = 5 := rfl; omega)]
  have : (j + 1) * 5 + k - (svals t).length = j * 5 + k := by have : (svals t).length = 5 := rfl; omega
  rw [this]; exact flat_get h hk

theorem flat_len (b : List PStep) : (b.flatMap svals).length = b.length * 5 := by
 induction b with
 | nil => rfl
 | cons t b ih => rw [List.flatMap_cons, List.length_append, ih, List.length_cons]; have : (svals t).length = 5 := rfl; omega

theorem open_steps {fuel : Nat} {cs : List Value} {x : DataW H × List MemPlace} (h : DataW.trod enc Try.prog W base spare held fuel 122 cs = some x) :
  ∃ v b, cs = [v] ∧ SW W v b ∧ b.length ≤ 9223372036854775807 := by
 rcases DataW.trod_slice Try.underlying122 h with ⟨hcs, _⟩ | ⟨a, len, cap, elems, rest, n, _, hcs, _, _, hl, hm, hlen, hel, _, _⟩
 ·exact ⟨_, [], hcs, .inl ⟨rfl, .inl rfl⟩, by simp⟩
 ·rw [cells5] at hel
  have hex : ∀ i, i < len → ∃ s : PStep, ∀ k, k < 5 → W.cell? (a.add (i * 5 + k)) = (svals s)[k]? := by
   intro i hi
   have h1 := hel i hi
   rw [List.getElem?_eq_getElem (by omega), Option.bind_eq_some_iff] at h1
   obtain ⟨cs', h2, h3⟩ := h1
   obtain ⟨s, rfl⟩ := open_step h3
   refine ⟨s, fun k hk => ?_⟩
   have h4 := (World.cells?_some h2).2.2 k hk
   rw [← h4]
   congr 1
   unfold Addr.add
   by_cases h0 : i * 5 = 0
   ·by_cases hk0 : k = 0
    ·simp [h0, hk0]
    ·simp [h0, hk0]
   ·simp only [h0, if_false]
    by_cases hk0 : k = 0
    ·simp [h0, hk0]
    ·simp [h0, hk0, Nat.add_assoc]
  obtain ⟨b, hb, hbs⟩ := exists_list len hex
  subst hb
  have hmx : b.length ≤ 9223372036854775807 := by unfold maxLen at hm; omega
  refine ⟨_, b, hcs, ?_, hmx⟩
  by_cases h0 : b = []
  ·subst h0; exact .inl ⟨rfl, .inr ⟨a, cap, rfl⟩⟩
  ·refine .inr ⟨a, cap, h0, rfl, Win.of (by
    intro hh
    have := flat_len b
    rw [hh] at this
    have h5 := List.length_pos_iff.2 h0
    simp at this; omega) fun k v hv => ?_⟩
   have hk : k < b.length * 5 := by rw [← flat_len]; exact (List.getElem?_eq_some_iff.1 hv).1
   have hj : k / 5 < b.length := by omega
   have e : k = k / 5 * 5 + k % 5 := by omega
   have hg := hbs (k / 5) _ (List.getElem?_eq_getElem hj) (k % 5) (by omega)
   rw [e] at hv ⊢
   rw [hg, ← flat_get (List.getElem?_eq_getElem hj) (by omega)]
   exact hv

set_option maxRecDepth 100000 in
theorem open_plan {fuel : Nat} {cs : List Value} {x : DataW H × List MemPlace} (h : DataW.trod enc Try.prog W base spare held fuel 25 cs = some x) :
  ∃ v p, cs = [v] ∧ PW W v p ∧ Lens p := by
 obtain ⟨xs, n, _, _, hl, hxl, hf⟩ := DataW.trod_struct Try.underlying25 h
 rw [cells25] at hl
 obtain ⟨v, rfl⟩ := one_of hl
 ·have f0 : DataW.trod enc Try.prog W base spare held n 23 (([v].drop 0).take (Try.prog.cellsOf 23)) = xs[0]? := hf 0 _ rfl
  rw [List.getElem?_eq_getElem (by rw [hxl]; decide)] at f0
  simp only [cells23, List.drop_zero, List.take_succ_cons, List.take_zero] at f0
  rcases DataW.trod_slice Try.underlying23 f0 with ⟨hcs, _⟩ | ⟨a, len, cap, elems, rest, n', _, hcs, _, _, hl, hm, hlen, hel, _, _⟩
  ·simp only [List.cons.injEq, and_true] at hcs
   exact ⟨v, [], rfl, .inl ⟨rfl, .inl hcs⟩, by simp, fun b hb => by cases hb⟩
  ·simp only [List.cons.injEq, and_true] at hcs
   subst hcs
   rw [cells1] at hel
   have hex : ∀ i, i < len → ∃ q : Value × List PStep, W.cell? (a.add i) = some q.1 ∧ SW W q.1 q.2 ∧ q.2.length ≤ 9223372036854775807 := by
    intro i hi
    have h1 := hel i hi
    rw [List.getElem?_eq_getElem (by omega), Option.bind_eq_some_iff] at h1
    obtain ⟨cs', h2, h3⟩ := h1
    obtain ⟨xs', n2, _, _, hl', hxl', hf'⟩ := DataW.trod_struct Try.underlying124 h3
    rw [cells1] at hl'
    obtain ⟨u, rfl⟩ := one_of hl'
    ·have g0 : DataW.trod enc Try.prog W base spare held n2 122 (([u].drop 0).take (Try.prog.cellsOf 122)) = xs'[0]? := hf' 0 _ rfl
     rw [List.getElem?_eq_getElem (by rw [hxl']; decide)] at g0
     simp only [cells122, List.drop_zero, List.take_succ_cons, List.take_zero] at g0
     obtain ⟨u', b, e, hS, hb⟩ := open_steps g0
     simp only [List.cons.injEq, and_true] at e
     subst e
     refine ⟨(u, b), ?_, hS, hb⟩
     have h4 := (World.cells?_some h2).2.2 0 (by omega)
     rw [Nat.mul_one] at h4
     simpa [Addr.add] using h4
   obtain ⟨qs, hqs, hq⟩ := exists_list len hex
   have hmx : qs.length ≤ 9223372036854775807 := by unfold maxLen at hm; omega
   refine ⟨_, qs.map (·.2), rfl, ?_, by simpa using hmx, fun b hb => ?_⟩
   ·by_cases h0 : qs = []
    ·subst h0
     simp only [List.length_nil] at hqs
     subst hqs
     exact .inl ⟨rfl, .inr ⟨a, cap, rfl⟩⟩
    ·refine .inr ⟨a, cap, qs.map (·.1), by simpa using h0, by simp [hqs], by simp, Win.of (by simpa using h0) fun k v hv => ?_, fun i x b hx hb => ?_⟩
     ·rw [List.getElem?_map] at hv
      cases hk : qs[k]? with
      | none => rw [hk] at hv; cases hv
      | some q =>
       rw [hk] at hv
       simp only [Option.map_some, Option.some.injEq] at hv
       rw [← hv]; exact (hq k q hk).1
     ·rw [List.getElem?_map] at hx hb
      cases hk : qs[i]? with
      | none => rw [hk] at hx; cases hx
      | some q =>
       rw [hk] at hx hb
       simp only [Option.map_some, Option.some.injEq] at hx hb
       rw [← hx, ← hb]; exact (hq i q hk).2.1
   ·obtain ⟨q, hqm, rfl⟩ := List.mem_map.1 hb
    obtain ⟨i, hi⟩ := List.getElem?_of_mem hqm
    exact (hq i q hi).2.2

end

/-- Steps as cells and as values. -/
theorem cat_vals : ∀ {b : List PStep} {i k : Nat} {y : Cell}, (cat scells i b)[k]? = some y → ∃ n, y = .int .i64 n ∧ (b.flatMap svals)[k]? = some (.int .i64 n)
 | [], i, k, y, h => by simp [cat] at h
 | s :: b, i, k, y, h => by
  simp only [cat] at h
  rw [List.flatMap_cons]
  by_cases hk : k < 5
  ·rw [List.getElem?_append_left (by exact hk)] at h
   rw [List.getElem?_append_left (by exact hk)]
   rcases k with _ | _ | _ | _ | _ | k
   ·simp [scells] at h; exact ⟨_, h.symm, rfl⟩
   ·simp [scells] at h; exact ⟨_, h.symm, rfl⟩
   ·simp [scells] at h; exact ⟨_, h.symm, rfl⟩
   ·simp [scells] at h; exact ⟨_, h.symm, rfl⟩
   ·simp [scells] at h; exact ⟨_, h.symm, rfl⟩
   ·omega
  ·rw [List.getElem?_append_right (by have : (scells i s).length = 5 := rfl; omega)] at h
   rw [List.getElem?_append_right (by have : (svals s).length = 5 := rfl; omega)]
   exact cat_vals h

theorem cat_clean (b : List PStep) : clean true (cat scells 0 b) = true := by
 unfold clean
 simp only [Bool.not_true, Bool.false_or, Bool.not_eq_true', List.contains_eq_mem, decide_eq_false_iff_not]
 intro hm
 obtain ⟨k, hk⟩ := List.getElem?_of_mem hm
 obtain ⟨n, e, _⟩ := cat_vals hk
 cases e

/-- A body's part: its cell, and its object if it is not empty. -/
def BQ (W : World) (p : PPlan) (vs : List Value) (i : Nat) (q : Cell × Option (Nat × AObj)) : Prop :=
 ∃ b x, p[i]? = some b ∧ vs[i]? = some x ∧
 ((q.2 = none ∧ b = [] ∧ ((q.1 = .slc none 0 0 ∧ x = .slice none 0 0) ∨ (q.1 = .slc none 0 1 ∧ ∃ a k, x = .slice (some a) 0 k))) ∨
 (∃ blk ob off cap c T fz, q = (.slc (some (i + 1, off)) b.length cap, some (blk, ob)) ∧ x = .slice (some ⟨blk, off, none⟩) b.length cap ∧ ob.esz = 0 ∧ ob.ro = true ∧
  W.heap[blk]? = some (.cells c T fz) ∧ c.size = ob.cells.length ∧ (∀ (k : Nat) (y : Cell), ob.cells[k]? = some y → y = hole ∨ ∃ n, y = .int .i64 n ∧ c[k]? = some (.int .i64 n)) ∧
  rd ob.cells off (b.length * 5) = some (cat scells 0 b)))

theorem bq_of {W : World} {p : PPlan} {vs : List Value} {i : Nat} {b : List PStep} {x : Value} (hb : p[i]? = some b) (hx : vs[i]? = some x) (h : SW W x b) : ∃ q, BQ W p vs i q := by
 rcases h with ⟨rfl, h | ⟨a, k, h⟩⟩ | ⟨a, cap, hne, h, hsp, c, T, fz, hc, hle, hcell⟩
 ·exact ⟨(.slc none 0 0, none), [], x, hb, hx, .inl ⟨rfl, rfl, .inl ⟨rfl, h⟩⟩⟩
 ·exact ⟨(.slc none 0 1, none), [], x, hb, hx, .inl ⟨rfl, rfl, .inr ⟨rfl, a, k, h⟩⟩⟩
 ·have hl : (cat scells 0 b).length = b.length * 5 := cat_length scells_len
  rw [flat_len] at hle
  have ha : a = ⟨a.block, a.off, none⟩ := by cases a; simp_all
  refine ⟨(.slc (some (i + 1, a.off)) b.length cap, some (a.block, winObj a.off c.size (cat scells 0 b))), b, x, hb, hx,
   .inr ⟨a.block, winObj a.off c.size (cat scells 0 b), a.off, cap, c, T, fz, rfl, by rw [h, ← ha], rfl, rfl, hc, (win_len (by omega)).symm, fun k y hy => ?_, ?_⟩⟩
  ·rcases win_get hy with e | ⟨j, rfl, hj⟩
   ·exact .inl e
   ·obtain ⟨n, e, hn⟩ := cat_vals hj
    exact .inr ⟨n, e, hcell j _ hn⟩
  ·rw [← hl]; exact win_rd

theorem inPlan {W : World} {v : Value} {p : PPlan} (h : PW W v p) : ∃ ρ μ c, Sim (· < W.heap.size) ρ μ W ∧ CRel ρ c v ∧ PlanR μ.next μ c p := by
 have hnil : ∀ (c : Cell), (∃ k, c = .slc none 0 k) → PlanR 0 ⟨fun _ => none, 0⟩ c [] := by
  rintro c ⟨k, rfl⟩
  exact ⟨[], rfl, ⟨none, k, rfl, rfl, rfl⟩, fun i b hb => by simp at hb⟩
 rcases h with ⟨rfl, h | ⟨a, k, h⟩⟩ | ⟨a, cap, vs, hne, h, hvl, ⟨hsp, c, T, fz, hc, hle, hcell⟩, hS⟩
 ·exact ⟨fun _ => none, ⟨fun _ => none, 0⟩, .slc none 0 0, sim_empty W, .inl h, hnil _ ⟨_, rfl⟩⟩
 ·exact ⟨fun _ => none, ⟨fun _ => none, 0⟩, .slc none 0 1, sim_empty W, .inr ⟨rfl, rfl, a, k, h⟩, hnil _ ⟨_, rfl⟩⟩
 ·obtain ⟨qs, hql, hq⟩ := exists_list (Q := BQ W p vs) p.length (fun i hi =>
   bq_of (List.getElem?_eq_getElem hi) (List.getElem?_eq_getElem (by omega)) (hS i _ _ (List.getElem?_eq_getElem (by omega)) (List.getElem?_eq_getElem hi)))
  have ha : a = ⟨a.block, a.off, none⟩ := by cases a; simp_all
  let bc : List Cell := qs.map (·.1)
  have hbl : bc.length = p.length := by simp [bc, hql]
  let top : AObj := winObj a.off c.size bc
  let ρ : Emb := fun i => if i = 0 then some (a.block, 0) else match qs[i - 1]? with | some (_, some (blk, _)) => some (blk, 0) | _ => none
  let μ : Mem := ⟨fun i => if i = 0 then some top else match qs[i - 1]? with | some (_, some (_, ob)) => some ob | _ => none, p.length + 1⟩
  have hblk : ∀ {b : Nat} {c : Array Value} {T : TypeId} {fz : Nat × Nat}, W.heap[b]? = some (.cells c T fz) → b < W.heap.size := fun hh => (Array.getElem?_eq_some_iff.1 hh).1
  have hrel : ∀ (i : Nat) (y : Cell), bc[i]? = some y → ∃ x, vs[i]? = some x ∧ CRel ρ y x := by
   intro i y hy
   simp only [bc, List.getElem?_map] at hy
   cases hqi : qs[i]? with
   | none => rw [hqi] at hy; cases hy
   | some q =>
    rw [hqi] at hy
    simp only [Option.map_some, Option.some.injEq] at hy
    subst hy
    obtain ⟨b, x, hb, hx, hcase⟩ := hq i q hqi
    refine ⟨x, hx, ?_⟩
    rcases hcase with ⟨_, _, ⟨e, ex⟩ | ⟨e, a', k', ex⟩⟩ | ⟨blk, ob, off, cap', c', T', fz', e, ex, _⟩
    ·rw [e]; exact .inl ex
    ·rw [e]; exact .inr ⟨rfl, rfl, a', k', ex⟩
    ·rw [e]
     refine ⟨blk, 0, ?_, ex⟩
     simp only [ρ]
     rw [if_neg (by omega), Nat.add_sub_cancel, hqi, e]
  have hobj : ∀ (i : Nat) (o : AObj) (b x : Nat), μ.obj i = some o → ρ i = some (b, x) → o.ro = true ∧ ∃ c T fz, W.heap[b]? = some (.cells c T fz) ∧ c.size = o.cells.length + x * o.esz ∧ (o.esz = 0 → x = 0) ∧
    (∀ (k : Nat) (y : Cell), o.cells[k]? = some y → (o.ro = true ∧ y = hole) ∨ ∃ v, c[k]? = some v ∧ CRel ρ y v) := by
   intro i o b x ho hr
   simp only [μ] at ho
   simp only [ρ] at hr
   by_cases h0 : i = 0
   ·subst h0
    simp only [if_true, Option.some.injEq, Prod.mk.injEq] at ho hr
    obtain ⟨rfl, rfl⟩ := hr
    subst ho
    refine ⟨rfl, c, T, fz, hc, ?_, fun _ => rfl, fun k y hy => ?_⟩
    ·rw [win_len (by rw [hbl]; omega)]; simp
    ·rcases win_get hy with e | ⟨j, rfl, hj⟩
     ·exact .inl ⟨rfl, e⟩
     ·obtain ⟨x, hx, hr⟩ := hrel j y hj
      exact .inr ⟨x, hcell j x hx, hr⟩
   ·rw [if_neg h0] at ho hr
    cases hqi : qs[i - 1]? with
    | none => rw [hqi] at ho; cases ho
    | some q =>
     rw [hqi] at ho hr
     obtain ⟨bb, xx, hb, hx, hcase⟩ := hq (i - 1) q hqi
     rcases hcase with ⟨e2, _, _⟩ | ⟨blk, ob, off, cap', c', T', fz', e, ex, hez, hro, hh, hsz, hcl, _⟩
     ·obtain ⟨q1, q2⟩ := q
      dsimp only at e2
      subst e2
      cases ho
     ·subst e
      simp only [Option.some.injEq, Prod.mk.injEq] at ho hr
      obtain ⟨rfl, rfl⟩ := hr
      subst ho
      refine ⟨hro, c', T', fz', hh, by rw [hsz]; simp, fun _ => rfl, fun k y hy => ?_⟩
      rcases hcl k y hy with e | ⟨n, e, hn⟩
      ·exact .inl ⟨hro, e⟩
      ·exact .inr ⟨_, hn, by rw [e]; rfl⟩
  refine ⟨ρ, μ, .slc (some (0, a.off)) p.length cap, ⟨?_, ?_, ?_, ?_, fun b hb => hb⟩, ⟨a.block, 0, rfl, by rw [h]; rw [← ha]; rfl⟩, ⟨bc, hbl, ?_, ?_⟩⟩
  ·intro i b x hr
   simp only [ρ] at hr
   by_cases h0 : i = 0
   ·subst h0
    simp only [if_true, Option.some.injEq, Prod.mk.injEq] at hr
    obtain ⟨rfl, rfl⟩ := hr
    exact ⟨Nat.succ_pos _, hblk hc⟩
   ·rw [if_neg h0] at hr
    cases hqi : qs[i - 1]? with
    | none => rw [hqi] at hr; cases hr
    | some q =>
     rw [hqi] at hr
     have hi : i - 1 < qs.length := (List.getElem?_eq_some_iff.1 hqi).1
     obtain ⟨bb, xx, hb, hx, hcase⟩ := hq (i - 1) q hqi
     rcases hcase with ⟨e2, _, _⟩ | ⟨blk, ob, off, cap', c', T', fz', e, ex, hez, hro, hh, hsz, hcl, _⟩
     ·obtain ⟨q1, q2⟩ := q
      dsimp only at e2
      subst e2
      cases hr
     ·subst e
      simp only [Option.some.injEq, Prod.mk.injEq] at hr
      obtain ⟨rfl, rfl⟩ := hr
      exact ⟨by show i < p.length + 1; omega, hblk hh⟩
  ·intro i o b x ho hr
   obtain ⟨hro, c', T', fz', h1, h2, h3, h4⟩ := hobj i o b x ho hr
   exact ⟨c', T', fz', h1, h2, h3, h4, fun hf => by rw [hro] at hf; cases hf⟩
  ·intro i j oi oj b x y hi hj hf hri hrj
   have := (hobj i oi b x hi hri).1
   rw [this] at hf; cases hf
  ·intro i o ho
   simp only [μ] at ho ⊢
   by_cases h0 : i = 0
   ·omega
   ·rw [if_neg h0] at ho
    cases hqi : qs[i - 1]? with
    | none => rw [hqi] at ho; cases ho
    | some q =>
     have := (List.getElem?_eq_some_iff.1 hqi).1
     omega
  ·refine ⟨some (0, a.off), cap, by rw [hbl], by rw [cat_length crow_len], Nat.succ_pos _, top, rfl, ?_, ?_⟩
   ·have e : cat crow 0 bc = bc := by
     have : ∀ (l : List Cell) (i : Nat), cat crow i l = l := by
      intro l
      induction l with
      | nil => intro i; rfl
      | cons c l ih => intro i; simp only [cat, crow, ih]; rfl
     exact this bc 0
    rw [e, Nat.mul_one]
    exact win_rd
   ·have e : cat crow 0 bc = bc := by
     have : ∀ (l : List Cell) (i : Nat), cat crow i l = l := by
      intro l
      induction l with
      | nil => intro i; rfl
      | cons c l ih => intro i; simp only [cat, crow, ih]; rfl
     exact this bc 0
    rw [e]
    show clean true bc = true
    unfold clean
    simp only [Bool.not_true, Bool.false_or, Bool.not_eq_true', List.contains_eq_mem, decide_eq_false_iff_not]
    intro hm
    obtain ⟨q, hqm, e1⟩ := List.mem_map.1 hm
    obtain ⟨i, hi⟩ := List.getElem?_of_mem hqm
    obtain ⟨bb, xx, hb, hx, hcase⟩ := hq i q hi
    rcases hcase with ⟨_, _, ⟨e2, ex⟩ | ⟨e2, a', k', ex⟩⟩ | ⟨blk, ob, off, cap', c', T', fz', e2, ex, _⟩
    ·rw [e2] at e1; cases e1
    ·rw [e2] at e1; cases e1
    ·rw [e2] at e1; cases e1
  ·intro i b hb
   have hi : i < p.length := (List.getElem?_eq_some_iff.1 hb).1
   have hqi : qs[i]? = some qs[i] := List.getElem?_eq_getElem (by omega)
   refine ⟨qs[i].1, by simp [bc, hqi], ?_⟩
   obtain ⟨bb, xx, hb', hx, hcase⟩ := hq i _ hqi
   rw [hb] at hb'
   simp only [Option.some.injEq] at hb'
   subst hb'
   rcases hcase with ⟨_, e0, ⟨e2, ex⟩ | ⟨e2, a', k', ex⟩⟩ | ⟨blk, ob, off, cap', c', T', fz', e2, ex, hez, hro, hh, hsz, hcl, hrd⟩
   ·subst e0; rw [e2]; exact ⟨none, 0, rfl, rfl, rfl⟩
   ·subst e0; rw [e2]; exact ⟨none, 1, rfl, rfl, rfl⟩
   ·have e3 : qs[i].1 = .slc (some (i + 1, off)) b.length cap' := by rw [e2]
    rw [e3]
    refine ⟨some (i + 1, off), cap', rfl, cat_length scells_len, by show i + 1 < p.length + 1; omega, ob, ?_, hrd, by rw [hro]; exact cat_clean b⟩
    simp only [μ]
    rw [if_neg (by omega), Nat.add_sub_cancel, hqi, e2]
end Go.Proofs.Ytibmnlijoeppaaa

/-
 Bytes that come in: how they lie in the world, and an abstract memory that reads them.
-/
import Derived.Test.YtibmnlijoeppaaaInW
namespace Go.Proofs.Ytibmnlijoeppaaa
open Go.ChangeShapes Go.WideShapes Go.ChangeAt Go.RowKit
set_option linter.unusedSimpArgs false
set_option linter.unusedVariables false

def brow (_ : Nat) (n : Int) : List Cell := [.int .u8 n]
theorem brow_len (i : Nat) (n : Int) : (brow i n).length = 1 := rfl

/-- Bytes in the world. -/
def BW (W : World) (v : Value) (b : List Int) : Prop :=
 (b = [] ∧ (v = .slice none 0 0 ∨ ∃ a k, v = .slice (some a) 0 k)) ∨ ∃ a cap, b ≠ [] ∧ v = .slice (some a) b.length cap ∧ Win W a (b.map (Value.int .u8))

section
variable {H : Type} {enc : TypeId × Value → H} {W : World} {base : Nat} {spare : Nat → Bool} {held : Bool}

theorem cells5b : Try.prog.cellsOf 5 = 1 := by kernel_rfl

set_option maxRecDepth 100000 in
theorem open_bytes {fuel : Nat} {cs : List Value} {x : DataW H × List MemPlace} (h : DataW.trod enc Try.prog W base spare held fuel 37 cs = some x) :
  ∃ v b, cs = [v] ∧ BW W v b ∧ b.length ≤ 9223372036854775807 ∧ ∀ y ∈ b, 0 ≤ y ∧ y ≤ 255 := by
 rcases DataW.trod_slice Try.underlying37 h with ⟨hcs, _⟩ | ⟨a, len, cap, elems, rest, n, _, hcs, _, _, hl, hm, hlen, hel, _, _⟩
 ·exact ⟨_, [], hcs, .inl ⟨rfl, .inl rfl⟩, by simp, fun y hy => by cases hy⟩
 ·rw [cells5b] at hel
  have k5 : Try.prog.underlying 5 = some (.int .u8) := Try.underlying5
  have hex : ∀ i, i < len → ∃ s : Int, W.cell? (a.add i) = some (.int .u8 s) ∧ 0 ≤ s ∧ s ≤ 255 := by
   intro i hi
   have h1 := hel i hi
   rw [List.getElem?_eq_getElem (by omega), Option.bind_eq_some_iff] at h1
   obtain ⟨cs', h2, h3⟩ := h1
   obtain ⟨n0, rfl, _, hw⟩ := DataW.trod_int k5 h3
   refine ⟨n0, ?_, ?_⟩
   ·have h4 := (World.cells?_some h2).2.2 0 (by omega)
    rw [Nat.mul_one] at h4
    simpa [Addr.add] using h4
   ·have h0 : IntKind.u8.min = 0 := by decide
    have h255 : IntKind.u8.max = 255 := by decide
    simp only [Lit.wf, h0, h255, Bool.and_eq_true, decide_eq_true_eq] at hw
    exact hw
  obtain ⟨b, hb, hbs⟩ := exists_list len hex
  subst hb
  have hmx : b.length ≤ 9223372036854775807 := by unfold maxLen at hm; omega
  refine ⟨_, b, hcs, ?_, hmx, fun y hy => ?_⟩
  ·by_cases h0 : b = []
   ·subst h0; exact .inl ⟨rfl, .inr ⟨a, cap, rfl⟩⟩
   ·refine .inr ⟨a, cap, h0, rfl, Win.of (by simpa using h0) fun k v hv => ?_⟩
    rw [List.getElem?_map] at hv
    obtain ⟨y, hy, rfl⟩ := Option.map_eq_some_iff.1 hv
    exact (hbs k y hy).1
  ·obtain ⟨i, hi⟩ := List.getElem?_of_mem hy
   exact (hbs i y hi).2
end

theorem brow_vals {b : List Int} {i k : Nat} {y : Cell} (h : (cat brow i b)[k]? = some y) : ∃ n, y = .int .u8 n ∧ (b.map (Value.int .u8))[k]? = some (.int .u8 n) := by
 induction b generalizing i k with
 | nil => simp [cat] at h
 | cons s b ih =>
  simp only [cat, brow, List.cons_append, List.nil_append] at h
  rcases k with _ | k
  ·simp only [List.getElem?_cons_zero, Option.some.injEq] at h
   exact ⟨s, h.symm, rfl⟩
  ·simp only [List.getElem?_cons_succ] at h
   obtain ⟨n, e, hn⟩ := ih h
   exact ⟨n, e, by simpa using hn⟩

theorem brow_clean (b : List Int) : clean true (cat brow 0 b) = true := by
 unfold clean
 simp only [Bool.not_true, Bool.false_or, Bool.not_eq_true', List.contains_eq_mem, decide_eq_false_iff_not]
 intro hm
 obtain ⟨k, hk⟩ := List.getElem?_of_mem hm
 obtain ⟨n, e, _⟩ := brow_vals hk
 cases e

def QB (W : World) (l : List (Value × List Int)) (i : Nat) (q : Cell × Option (Nat × AObj)) : Prop :=
 ∃ x b, l[i]? = some (x, b) ∧
 ((q.2 = none ∧ b = [] ∧ ((q.1 = .slc none 0 0 ∧ x = .slice none 0 0) ∨ (q.1 = .slc none 0 1 ∧ ∃ a k, x = .slice (some a) 0 k))) ∨
 (∃ blk ob off cap c T fz, q = (.slc (some (i, off)) b.length cap, some (blk, ob)) ∧ x = .slice (some ⟨blk, off, none⟩) b.length cap ∧ ob.esz = 0 ∧ ob.ro = true ∧
  W.heap[blk]? = some (.cells c T fz) ∧ c.size = ob.cells.length ∧ (∀ (k : Nat) (y : Cell), ob.cells[k]? = some y → y = hole ∨ ∃ n, y = .int .u8 n ∧ c[k]? = some (.int .u8 n)) ∧
  rd ob.cells off (b.length * 1) = some (cat brow 0 b)))

theorem qb_of {W : World} {l : List (Value × List Int)} {i : Nat} {x : Value} {b : List Int} (hx : l[i]? = some (x, b)) (h : BW W x b) : ∃ q, QB W l i q := by
 rcases h with ⟨rfl, h | ⟨a, k, h⟩⟩ | ⟨a, cap, hne, h, hsp, c, T, fz, hc, hle, hcell⟩
 ·exact ⟨(.slc none 0 0, none), x, [], hx, .inl ⟨rfl, rfl, .inl ⟨rfl, h⟩⟩⟩
 ·exact ⟨(.slc none 0 1, none), x, [], hx, .inl ⟨rfl, rfl, .inr ⟨rfl, a, k, h⟩⟩⟩
 ·have hl : (cat brow 0 b).length = b.length * 1 := cat_length brow_len
  rw [List.length_map] at hle
  have ha : a = ⟨a.block, a.off, none⟩ := by cases a; simp_all
  refine ⟨(.slc (some (i, a.off)) b.length cap, some (a.block, winObj a.off c.size (cat brow 0 b))), x, b, hx,
   .inr ⟨a.block, winObj a.off c.size (cat brow 0 b), a.off, cap, c, T, fz, rfl, by rw [h, ← ha], rfl, rfl, hc, (win_len (by omega)).symm, fun k y hy => ?_, ?_⟩⟩
  ·rcases win_get hy with e | ⟨j, rfl, hj⟩
   ·exact .inl e
   ·obtain ⟨n, e, hn⟩ := brow_vals hj
    exact .inr ⟨n, e, hcell j _ hn⟩
  ·rw [← hl]; exact win_rd

theorem inBytes {W : World} (l : List (Value × List Int)) (h : ∀ (i : Nat) x b, l[i]? = some (x, b) → BW W x b) :
  ∃ (ρ : Emb) (μ : Mem) (cs : List Cell), Sim (· < W.heap.size) ρ μ W ∧ μ.next = l.length ∧ cs.length = l.length ∧ ∀ (i : Nat) x b c, l[i]? = some (x, b) → cs[i]? = some c → CRel ρ c x ∧ Rd μ.next μ 1 c b.length (cat brow 0 b) := by
 obtain ⟨qs, hql, hq⟩ := exists_list (Q := QB W l) l.length (fun i hi => qb_of (x := l[i].1) (b := l[i].2) (List.getElem?_eq_getElem hi) (h i _ _ (List.getElem?_eq_getElem hi)))
 let ρ : Emb := fun i => match qs[i]? with | some (_, some (blk, _)) => some (blk, 0) | _ => none
 let μ : Mem := ⟨fun i => match qs[i]? with | some (_, some (_, ob)) => some ob | _ => none, l.length⟩
 have hblk : ∀ {b : Nat} {c : Array Value} {T : TypeId} {fz : Nat × Nat}, W.heap[b]? = some (.cells c T fz) → b < W.heap.size := fun hh => (Array.getElem?_eq_some_iff.1 hh).1
 have hobj : ∀ (i : Nat) (o : AObj) (b x : Nat), μ.obj i = some o → ρ i = some (b, x) → o.ro = true ∧ ∃ c T fz, W.heap[b]? = some (.cells c T fz) ∧ c.size = o.cells.length + x * o.esz ∧ (o.esz = 0 → x = 0) ∧
   (∀ (k : Nat) (y : Cell), o.cells[k]? = some y → (o.ro = true ∧ y = hole) ∨ ∃ v, c[k]? = some v ∧ CRel ρ y v) := by
  intro i o b x ho hr
  simp only [μ] at ho
  simp only [ρ] at hr
  cases hqi : qs[i]? with
  | none => rw [hqi] at ho; cases ho
  | some q =>
   rw [hqi] at ho hr
   obtain ⟨xx, bb, hx, hcase⟩ := hq i q hqi
   rcases hcase with ⟨e2, _, _⟩ | ⟨blk, ob, off, cap', c', T', fz', e, ex, hez, hro, hh, hsz, hcl, _⟩
   ·obtain ⟨q1, q2⟩ := q
    dsimp only at e2
    subst e2
    cases ho
   ·subst e
    simp only [Option.some.injEq, Prod.mk.injEq] at ho hr
    obtain ⟨rfl, rfl⟩ := hr
    subst ho
    refine ⟨hro, c', T', fz', hh, by rw [hsz]; simp, fun _ => rfl, fun k y hy => ?_⟩
    rcases hcl k y hy with e | ⟨n, e, hn⟩
    ·exact .inl ⟨hro, e⟩
    ·exact .inr ⟨_, hn, by rw [e]; rfl⟩
 refine ⟨ρ, μ, qs.map (·.1), ⟨?_, ?_, ?_, ?_, fun b hb => hb⟩, rfl, by simp [hql], ?_⟩
 ·intro i b x hr
  simp only [ρ] at hr
  cases hqi : qs[i]? with
  | none => rw [hqi] at hr; cases hr
  | some q =>
   rw [hqi] at hr
   have hi : i < qs.length := (List.getElem?_eq_some_iff.1 hqi).1
   obtain ⟨xx, bb, hx, hcase⟩ := hq i q hqi
   rcases hcase with ⟨e2, _, _⟩ | ⟨blk, ob, off, cap', c', T', fz', e, ex, hez, hro, hh, hsz, hcl, _⟩
   ·obtain ⟨q1, q2⟩ := q
    dsimp only at e2
    subst e2
    cases hr
   ·subst e
    simp only [Option.some.injEq, Prod.mk.injEq] at hr
    obtain ⟨rfl, rfl⟩ := hr
    exact ⟨by show i < l.length; omega, hblk hh⟩
 ·intro i o b x ho hr
  obtain ⟨hro, c', T', fz', h1, h2, h3, h4⟩ := hobj i o b x ho hr
  exact ⟨c', T', fz', h1, h2, h3, h4, fun hf => by rw [hro] at hf; cases hf⟩
 ·intro i j oi oj b x y hi hj hf hri hrj
  have := (hobj i oi b x hi hri).1
  rw [this] at hf; cases hf
 ·intro i o ho
  simp only [μ] at ho ⊢
  cases hqi : qs[i]? with
  | none => rw [hqi] at ho; cases ho
  | some q =>
   have := (List.getElem?_eq_some_iff.1 hqi).1
   omega
 ·intro i x b c hx hc
  rw [List.getElem?_map] at hc
  obtain ⟨q, hqi, rfl⟩ := Option.map_eq_some_iff.1 hc
  obtain ⟨xx, bb, hx', hcase⟩ := hq i q hqi
  rw [hx] at hx'
  simp only [Option.some.injEq, Prod.mk.injEq] at hx'
  obtain ⟨rfl, rfl⟩ := hx'
  have hi : i < qs.length := (List.getElem?_eq_some_iff.1 hqi).1
  rcases hcase with ⟨e0, e1, ⟨e2, ex⟩ | ⟨e2, a', k', ex⟩⟩ | ⟨blk, ob, off, cap', c', T', fz', e2, ex, hez, hro, hh, hsz, hcl, hrd⟩
  ·subst e1; rw [e2]; exact ⟨.inl ex, none, 0, rfl, rfl, rfl⟩
  ·subst e1; rw [e2]; exact ⟨.inr ⟨rfl, rfl, a', k', ex⟩, none, 1, rfl, rfl, rfl⟩
  ·have e3 : q.1 = .slc (some (i, off)) b.length cap' := by rw [e2]
   rw [e3]
   refine ⟨⟨blk, 0, ?_, by rw [ex]; rfl⟩, some (i, off), cap', rfl, cat_length brow_len, by show i < l.length; omega, ob, ?_, hrd, by rw [hro]; exact brow_clean b⟩
   ·simp only [ρ]
    rw [hqi, e2]
   ·simp only [μ]
    rw [hqi, e2]
end Go.Proofs.Ytibmnlijoeppaaa

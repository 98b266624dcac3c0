/-
 New variables on top of memory; slices that are read.
-/
import Derived.Test.YtibmnlijoeppaaaHeap
import Derived.IntWalk
namespace Go.Proofs.Ytibmnlijoeppaaa
set_option linter.unusedSimpArgs false
set_option linter.unusedVariables false

/-- A printed operation: its place, what it does, where its answer goes. -/
def rI (ix : Nat) (op : ROp) (d : Nat) : RI := ⟨ix, op, some d, none, []⟩

def ldl (cs : List Cell) (n : Option Nat) (o : Nat) : Option AV := match n with | none => (cs[o]?).map .c | some n => (rd cs o n).map .agg
theorem ldl_none {cs : List Cell} {o : Nat} : ldl cs none o = (cs[o]?).map .c := rfl
theorem ldl_some {cs : List Cell} {o n : Nat} : ldl cs (some n) o = (rd cs o n).map .agg := rfl

def stl (μ : Mem) (cs : List Cell) (e o : Nat) (x : List Cell) : Option Mem := if o + x.length ≤ cs.length then some (μ.new (wr cs o x) e) else none

theorem Mem.new_next {μ : Mem} {cs : List Cell} {e : Nat} : (μ.new cs e).next = μ.next + 1 := rfl
theorem Mem.new_ld {μ : Mem} {cs : List Cell} {e i o : Nat} {n : Option Nat} : (μ.new cs e).ld n i o = if i = μ.next then ldl cs n o else μ.ld n i o := by
 by_cases h : i = μ.next
 ·simp only [Mem.ld, Mem.new, h, ldl, if_true]
  cases n with
  | none => dsimp only; cases cs[o]? <;> rfl
  | some n => dsimp only; cases rd cs o n <;> rfl
 ·simp [Mem.ld, Mem.new, h]

theorem Mem.new_st {μ : Mem} {cs x : List Cell} {e i o : Nat} : (μ.new cs e).st i o x = if i = μ.next then stl μ cs e o x else (μ.st i o x).map fun m => m.new cs e := by
 by_cases h : i = μ.next
 ·subst h
  simp only [Mem.st, Mem.new, if_true, stl, true_and]
  split
  ·simp only [Mem.setObj, Option.some.injEq, Mem.mk.injEq, and_true]
   funext j
   by_cases hj : j = μ.next <;> simp [hj]
  ·rfl
 ·rw [if_neg h]
  simp only [Mem.st]
  have : (μ.new cs e).obj i = μ.obj i := by simp only [Mem.new, if_neg h]
  rw [this]
  cases μ.obj i with
  | none => rfl
  | some ob =>
   dsimp only
   split
   ·simp only [Option.map_some, Option.some.injEq]
    simp only [Mem.setObj, Mem.new, Mem.mk.injEq, and_true]
    funext j
    by_cases hj : j = i
    ·simp [hj, h]
    ·simp [hj]
   ·rfl

theorem Same.ld {hi : Nat} {μ μ' : Mem} (h : Same hi μ μ') {n : Option Nat} {i o : Nat} (hl : i < hi) : μ'.ld n i o = μ.ld n i o := by
 simp only [Mem.ld, h.1 i hl]

theorem Same.new {hi : Nat} {μ μ' : Mem} (h : Same hi μ μ') (hl : hi ≤ μ'.next) {cs : List Cell} {e : Nat} : Same hi μ (μ'.new cs e) := h.trans (Same.tmp hl)

/-- A slice value that reads as cells. -/
def Rd (hi : Nat) (μ : Mem) (sz : Nat) (c : Cell) (n : Nat) (cs : List Cell) : Prop :=
 ∃ a cap, c = .slc a n cap ∧ cs.length = n * sz ∧ (match a with | none => cs = [] | some (i, o) => i < hi ∧ ∃ ob, μ.obj i = some ob ∧ rd ob.cells o (n * sz) = some cs ∧ clean ob.ro cs = true)

theorem Rd.same {hi hi' : Nat} {μ μ' : Mem} {sz : Nat} {c : Cell} {n : Nat} {cs : List Cell} (h : Rd hi μ sz c n cs) (hs : Same hi' μ μ') (hh : hi ≤ hi') : Rd hi μ' sz c n cs := by
 obtain ⟨a, cap, rfl, hl, ha⟩ := h
 refine ⟨a, cap, rfl, hl, ?_⟩
 cases a with
 | none => exact ha
 | some p =>
  obtain ⟨i, o⟩ := p
  obtain ⟨h1, ob, h2, h3⟩ := ha
  exact ⟨h1, ob, (hs.1 i (by omega)).trans h2, h3⟩

theorem Rd.mono {hi hi' : Nat} {μ : Mem} {sz : Nat} {c : Cell} {n : Nat} {cs : List Cell} (h : Rd hi μ sz c n cs) (hh : hi ≤ hi') : Rd hi' μ sz c n cs := by
 obtain ⟨a, cap, rfl, hl, ha⟩ := h
 refine ⟨a, cap, rfl, hl, ?_⟩
 cases a with
 | none => exact ha
 | some p => exact ⟨Nat.lt_of_lt_of_le ha.1 hh, ha.2⟩

theorem Rd.val {hi : Nat} {μ : Mem} {sz : Nat} {n : Nat} {cs : List Cell} {b : Option (Nat × Nat)} {cap : Nat} (h : Rd hi μ sz (.slc b n cap) n cs) (hc : b = none → cap = 0) : SlcVal μ sz b n cap cs := by
 obtain ⟨a, cap', h1, hl, ha⟩ := h
 simp only [Cell.slc.injEq] at h1
 obtain ⟨rfl, -, rfl⟩ := h1
 refine ⟨hl, ?_⟩
 cases b with
 | none => exact ⟨ha, hc rfl⟩
 | some p => exact ha.2

theorem clean_sub {ro : Bool} {l l' : List Cell} (h : clean ro l = true) (hs : ∀ y ∈ l', y ∈ l) : clean ro l' = true := by
 unfold clean at h ⊢
 cases ro with
 | false => rfl
 | true =>
  simp only [Bool.not_true, Bool.false_or, Bool.not_eq_true', List.contains_eq_mem, decide_eq_false_iff_not] at h ⊢
  exact fun hh => h (hs _ hh)

theorem rd_rd {l cs : List Cell} {o m : Nat} (h : rd l o m = some cs) : ∀ {q p : Nat}, p + q ≤ m → rd l (o + p) q = rd cs p q := by
 intro q
 induction q with
 | zero => intro p _; rfl
 | succ q ih =>
  intro p hp
  simp only [rd]
  rw [← rd_get h p (by omega), Nat.add_assoc, ih (by omega)]

theorem Rd.row {hi : Nat} {μ : Mem} {sz : Nat} {c : Cell} {α : Type} {g : Nat → α → List Cell} (hg : ∀ i a, (g i a).length = sz) (hz : 0 < sz) {l : List α} (h : Rd hi μ sz c l.length (cat g 0 l)) {j : Nat} {x : α}
  (hj : l[j]? = some x) : ∃ i o, (∀ kd, aidx (.c c) (.c (.int kd (j : Int))) sz = some (.c (.ptr (some (i, o))))) ∧ i < hi ∧ μ.ld (some sz) i o = some (.agg (g j x)) ∧
   ∀ k, k < sz → μ.ld none i (o + k) = ((g j x)[k]?).map .c := by
 obtain ⟨a, cap, rfl, hl, ha⟩ := h
 have hlt : j < l.length := (List.getElem?_eq_some_iff.1 hj).1
 have hrow := cat_row hg (i := 0) hj
 rw [Nat.zero_add] at hrow
 have hcell : ∀ k, k < sz → (cat g 0 l)[j * sz + k]? = (g j x)[k]? := by
  intro k hk
  have := cat_get hg (i := 0) hj hk
  rw [Nat.zero_add] at this; exact this
 have hle : j * sz + sz ≤ l.length * sz := by
  have : (j + 1) * sz ≤ l.length * sz := Nat.mul_le_mul_right sz hlt
  rw [Nat.add_mul] at this; omega
 cases a with
 | none =>
  simp only at ha
  have := hcell 0 hz
  rw [ha] at this
  simp only [List.getElem?_nil] at this
  have h2 := hg j x
  rw [List.getElem?_eq_getElem (by omega)] at this
  cases this
 | some p =>
  obtain ⟨i, o⟩ := p
  obtain ⟨h1, ob, h2, h3⟩ := ha
  refine ⟨i, o + j * sz, fun kd => ?_, h1, ?_, fun k hk => ?_⟩
  ·rw [aidx_in (by omega)]; simp
  ·simp only [Mem.ld, h2]
   rw [rd_rd h3.1 hle, hrow]
   simp only [Option.bind_some]
   rw [clean_sub h3.2 (l' := g j x) (fun y hy => ?_)]
   ·rfl
   ·obtain ⟨k, hk⟩ := List.getElem?_of_mem hy
    have hk2 : k < sz := by rw [← hg j x]; exact (List.getElem?_eq_some_iff.1 hk).1
    rw [← hcell k hk2] at hk
    exact List.mem_of_getElem? hk
  ·simp only [Mem.ld, h2]
   rw [← hcell k hk, Nat.add_assoc, ← rd_get h3.1 _ (by omega)]
   cases hy : (cat g 0 l)[j * sz + k]? with
   | none => rfl
   | some y =>
    simp only [Option.bind_some]
    rw [clean_sub h3.2 (l' := [y]) (fun z hz => by rw [List.mem_singleton.1 hz]; exact List.mem_of_getElem? hy)]
    rfl

theorem Has.rd {ι : Type} [DecidableEq ι] {L : Lay ι} {C : Con ι} {lo : Nat} {μ : Mem} (h : Has L C lo μ) {r : ι} {sz n : Nat} {cs : List Cell} (e : C r = some (sz, cs)) (hl : cs.length = n * sz) (hz : 0 < sz) :
  Rd μ.next μ sz (L.sc r n) n cs := by
 have ht := h.obj r sz cs e
 unfold There at ht
 by_cases hr : L.on r = true
 ·rw [if_pos hr] at ht
  obtain ⟨j, hj, _⟩ := ht
  refine ⟨some (L.id r, 0), L.cap r, by unfold Lay.sc; rw [if_pos hr], hl, h.lt r hr, _, hj, ?_⟩
  rw [← hl]
  exact ⟨rd_append (rd_all cs), rfl⟩
 ·rw [if_neg hr] at ht
  have hn : n = 0 := by
   rw [ht.2] at hl
   simp only [List.length_nil] at hl
   rcases Nat.eq_zero_or_pos n with h0 | h0
   ·exact h0
   ·have := Nat.mul_pos h0 hz; omega
  subst hn
  exact ⟨none, 0, by unfold Lay.sc; rw [if_neg hr], hl, ht.2⟩

/-- A call comes to something of a kind. -/
def Ret (f : Nat) (args : List AV) (μ : Mem) (K : AV → Mem → Prop) : Prop := ∃ v μ', Ev f args μ v μ' ∧ K v μ'

theorem Ret_of {f : Nat} {args : List AV} {rf : RFun} {μ : Mem} {K : AV → Mem → Prop} (hp : prog f = some rf) (hl : args.length ≤ rf.ntmps)
  (h : R [.c rf.body] (frOf args) μ fun fr' μ1 => ∃ v, aRet fr' μ1 rf.res = some v ∧ K v μ1) : Ret f args μ K := Ev_of' hp hl h

theorem Ret.mono {f : Nat} {args : List AV} {μ : Mem} {K K' : AV → Mem → Prop} (h : Ret f args μ K) (hk : ∀ v μ', K v μ' → K' v μ') : Ret f args μ K' := by
 obtain ⟨v, μ', h1, h2⟩ := h; exact ⟨v, μ', h1, hk _ _ h2⟩

theorem R_calls {ix f : Nat} {args : List Opd} {d : Option Nat} {s : List It} {fr : Fr} {μ : Mem} {Q : Fr → Mem → Prop} {l : List AV} {K : AV → Mem → Prop} (ha : args.map (Opd.ev fr) = l) (h : Ret f l μ K)
  (hr : ∀ v μ', K v μ' → R s (fr.put d v) μ' Q) : R (.o ⟨ix, .call f args, d, none, []⟩ :: s) fr μ Q := by
 obtain ⟨v, μ', h1, h2⟩ := h
 exact R_call (by rw [ha]; exact h1) (hr v μ' h2)

/-- With what is looked at again. -/
theorem R_callre {ix f : Nat} {args : List Opd} {d : Option Nat} {re : List Re} {s : List It} {fr : Fr} {μ : Mem} {Q : Fr → Mem → Prop} {l : List AV} {K : AV → Mem → Prop} (ha : args.map (Opd.ev fr) = l) (h : Ret f l μ K)
  (hr : ∀ v μ', K v μ' → (re.all fun x => x.holds fr μ') = true ∧ R s (fr.put d v) μ' Q) : R (.o ⟨ix, .call f args, d, none, re⟩ :: s) fr μ Q := by
 obtain ⟨v, μ', h1, h2⟩ := h
 exact R_callg rfl (by rw [ha]; exact h1) (hr v μ' h2).1 (hr v μ' h2).2

/-- A shorter slice. -/
theorem Has.upto {ι : Type} [DecidableEq ι] {L : Lay ι} {C : Con ι} {lo : Nat} {μ : Mem} (h : Has L C lo μ) {r : ι} {sz n m : Nat} {cs : List Cell} (e : C r = some (sz, cs)) (hl : cs.length = n * sz) (hz : 0 < sz) (hm : m ≤ n)
  {kd : IntKind} : aslc sz (.c (L.sc r n)) none (some (.c (.int kd (m : Int)))) = some (.c (L.sc r m)) := by
 have ht := h.obj r sz cs e
 unfold There at ht
 unfold Lay.sc
 by_cases hr : L.on r = true
 ·rw [if_pos hr] at ht
  obtain ⟨j, _, hj⟩ := ht
  rw [if_neg (by omega), List.length_append, hl] at hj
  have hc : n ≤ L.cap r := by
   have : n * sz ≤ L.cap r * sz := by omega
   exact Nat.le_of_mul_le_mul_right this hz
  simp only [hr, if_true, aslc]
  rw [if_neg (by simp), if_pos (by omega)]
  simp
 ·rw [if_neg hr] at ht
  have hn : n = 0 := by
   rw [ht.2] at hl
   simp only [List.length_nil] at hl
   rcases Nat.eq_zero_or_pos n with h0 | h0
   ·exact h0
   ·have := Nat.mul_pos h0 hz; omega
  subst hn
  have hm0 : m = 0 := by omega
  subst hm0
  simp [hr, aslc]

theorem Lay.sc_slc {ι : Type} {L : Lay ι} {r : ι} {n : Nat} (h : L.on r = true) : L.sc r n = .slc (some (L.id r, 0)) n (L.cap r) := by unfold Lay.sc; rw [if_pos h]

theorem small {n : Int} (h : -9223372036854775808 ≤ n ∧ n ≤ 9223372036854775807) : IntKind.i64.wrap n = n := by rw [IntKind.wrap_i64]; omega
/-! ### The rules, bundled -/

theorem nz_add (n : Nat) : 0 + n = n := Nat.zero_add n
theorem t_and (p : Prop) : (True ∧ p) = p := true_and p
theorem and_t (p : Prop) : (p ∧ True) = p := and_true p
theorem andself (p : Prop) : (p ∧ p) = p := and_self p
theorem dec_t (h : Decidable True) : @decide True h = true := decide_true h
theorem dec_f (h : Decidable False) : @decide False h = false := decide_false h
theorem bne_s (a : Int) : (a != a) = false := by simp
theorem beq_s (a : Int) : (a == a) = true := by simp
theorem cond_t {a b : AV} : (bif true then a else b) = a := rfl
theorem cond_f {a b : AV} : (bif false then a else b) = b := rfl
theorem cond_bt {a b : Bool} : (bif true then a else b) = a := rfl
theorem cond_bf {a b : Bool} : (bif false then a else b) = b := rfl
theorem lmap_cons {α β : Type} {f : α → β} {a : α} {l : List α} : (a :: l).map f = f a :: l.map f := rfl
theorem lmap_nil {α β : Type} {f : α → β} : ([] : List α).map f = [] := rfl
theorem lcons_app {α : Type} {a : α} {l m : List α} : a :: l ++ m = a :: (l ++ m) := rfl
theorem lnil_app {α : Type} {l : List α} : [] ++ l = l := rfl
theorem llen_cons {α : Type} {a : α} {l : List α} : (a :: l).length = l.length + 1 := rfl
theorem llen_nil {α : Type} : ([] : List α).length = 0 := rfl
theorem omap_some {α β : Type} {f : α → β} {a : α} : (some a).map f = some (f a) := rfl
theorem omap_none {α β : Type} {f : α → β} : (none : Option α).map f = none := rfl
theorem ex_av {a : AV} {p : AV → Prop} : (∃ v, a = v ∧ p v) ↔ p a := exists_eq_left'
theorem lset_zero {α : Type} {a b : α} {l : List α} : (a :: l).set 0 b = b :: l := rfl
theorem lset_succ {α : Type} {a b : α} {l : List α} {n : Nat} : (a :: l).set (n + 1) b = a :: l.set n b := rfl
theorem lget_zero {α : Type} {a : α} {l : List α} : (a :: l)[0]? = some a := rfl
theorem lget_succ {α : Type} {a : α} {l : List α} {n : Nat} : (a :: l)[n + 1]? = l[n]? := rfl
theorem osome_inj {α : Type} {a b : α} : (some a = some b) = (a = b) := by simp

set_option linter.defProp false
def w1 := And.intro @R_g_t (And.intro @R_g_f (And.intro @R_g_u (And.intro @R_seq (And.intro @R_reg (And.intro @R_skip (And.intro @R_blk (And.intro @R_endblk (And.intro @R_ret (And.intro @R_nil (And.intro @R_mv (And.intro @R_nc (And.intro @R_fa (And.intro @R_ld (And.intro @R_st (And.intro @R_bin (And.intro @R_nt (And.intro @R_cv (And.intro @R_eq (And.intro @R_pick (And.intro @R_ias (And.intro @R_iaa (And.intro @R_bld (And.intro @R_bsl (And.intro @R_alc (And.intro @R_box (And.intro @R_mks (And.intro @R_slc (And.intro @R_sla (And.intro @R_ext (And.intro @R_fld (And.intro @R_len (And.intro @R_app (And.intro @R_mkf (And.intro @R_ite (And.intro @Fr.put_some (And.intro @Fr.put_none (And.intro @Opd.ev_t (And.intro @Opd.ev_k (And.intro @Fr.set_at (And.intro @PtrK_p (And.intro @BoolK_b (And.intro @IntK_i (And.intro @SlcK_s (And.intro @vbin_add (And.intro @vbin_sub (And.intro @vbin_mul (And.intro @vbin_eql (And.intro @vbin_neq (And.intro @vbin_lss (And.intro @vbin_leq (And.intro @vbin_gtr (And.intro @vbin_geq (And.intro @vext_0 (And.intro @vext_1 (And.intro @vext_2 (And.intro @vext_3 (And.intro @vext_4 (And.intro @IteK_true (And.intro @IteK_false (And.intro @nz_add (And.intro @t_and (And.intro @and_t (And.intro @andself (And.intro @dec_t (And.intro @dec_f (And.intro @bne_s (And.intro @beq_s (And.intro @Bool.not_true (And.intro @Bool.not_false (And.intro @cond_t (And.intro @cond_f (And.intro @cond_bt (@cond_bf)))))))))))))))))))))))))))))))))))))))))))))))))))))))))))))))))))))))))
def w2 := And.intro @OptK_some (And.intro @lmap_cons (And.intro @lmap_nil (And.intro @lcons_app (And.intro @lnil_app (And.intro @llen_cons (And.intro @llen_nil (And.intro @omap_some (@omap_none))))))))
def m1 := And.intro @Mem.new_next (And.intro @Mem.new_ld (And.intro @Mem.new_st (And.intro @ldl_none (And.intro @ldl_some (And.intro @Nat.add_assoc (And.intro @Nat.add_eq_left (And.intro @Nat.left_eq_add (And.intro @Nat.add_left_cancel_iff (And.intro @Nat.one_ne_zero (And.intro @Nat.add_zero (@ex_av)))))))))))
def m2 := And.intro @lset_zero (And.intro @lset_succ (And.intro @lget_zero (And.intro @lget_succ (@osome_inj))))
end Go.Proofs.Ytibmnlijoeppaaa

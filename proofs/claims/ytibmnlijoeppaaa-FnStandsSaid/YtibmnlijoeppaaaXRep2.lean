/-
 How the reference's machine lies in memory: tasks that are made, rings, what stands.
-/
import Derived.Test.YtibmnlijoeppaaaXRep
import Derived.Test.YtibmnlijoeppaaaNums
namespace Go.Proofs.Ytibmnlijoeppaaa.X
set_option linter.unusedSimpArgs false
set_option linter.unusedVariables false

def newTask (body state : Int) : PTk := ⟨body, state, [0, 0, 0, 0], -1, 0, false, false, 0, 0, 0, []⟩
def ntk (body state : Int) (r : Cell) : List Cell :=
 [.int .i64 body, .int .i64 state, r, .int .i64 (-1), .int .i64 0, .bool false, .bool false, .int .i64 0, .int .i64 0, .int .i64 0, .slc none 0 0]
def zero4 : List Cell := [.int .i64 0, .int .i64 0, .int .i64 0, .int .i64 0]

section
variable {E : IEnv} {L : Lay IR} {S : PM} {μ : Mem}

/-- A task is made. -/
theorem Rep.pushTask (h : Rep E L S μ) (body state : Int) (hlen : S.tasks.length < roomy) :
  ∃ L' μ1 μ2, aapp 1 8 (.c (L.sc .tasks S.tasks.length)) (.c (.slc (some (μ.next + 2, 0)) 1 1)) (((μ.new zero4 1).new (ntk body state (.slc (some (μ.next, 0)) 4 4)) 0).new [.ptr (some (μ.next + 1, 0))] 1) = some (.c (L'.sc .tasks (S.tasks.length + 1)), μ1) ∧
   μ1.st E.m 2 [L'.sc .tasks (S.tasks.length + 1)] = some μ2 ∧ Rep E L' { S with tasks := S.tasks ++ [newTask body state] } μ2 ∧ Stay S L L' ∧ Keep L μ L' μ2 ∧ ∀ j, j < S.tasks.length → L'.sc (.regs j) 4 = L.sc (.regs j) 4 := by
 unfold roomy at hlen
 have hnone : S.tasks[S.tasks.length]? = none := List.getElem?_eq_none (Nat.le_refl _)
 generalize hn : S.tasks.length = n at *
 have hA : Has (L.off fun x => decide (x = .frames n)) (icon E L S) E.lo μ := h.has.off fun x sz cs hx => ⟨fun hp => (by
  have := of_decide_eq_true hp
  subst this
  simp only [icon, hnone] at hx
  cases hx), fun _ => hx⟩
 have hB := hA.new h.lo (r := .regs n) (sz := 1) (cs := zero4) (cap := 4) (by rw [if_neg (by omega)]; rfl)
 have hlB : E.lo ≤ (μ.new zero4 1).next := by have := h.lo; simp only [Mem.new_next]; omega
 have hC := hB.new hlB (r := .task n) (sz := 0) (cs := ntk body state (.slc (some (μ.next, 0)) 4 4)) (cap := 0) (by rw [if_pos rfl]; trivial)
 have hlC : E.lo ≤ (((μ.new zero4 1).new (ntk body state (.slc (some (μ.next, 0)) 4 4)) 0).new [.ptr (some (μ.next + 1, 0))] 1).next := by have := h.lo; simp only [Mem.new_next]; omega
 generalize hLd : ((L.off fun x => decide (x = .frames n)).put (.regs n) μ.next 4).put (.task n) (μ.new zero4 1).next 0 = L0 at hC
 have ag0 : ∀ y, ¬ (y = .task n ∨ y = .regs n ∨ y = .frames n) → L0.id y = L.id y ∧ L0.on y = L.on y ∧ L0.cap y = L.cap y := by
  intro y hy
  have e1 : y ≠ .task n := fun e => hy (.inl e)
  have e2 : y ≠ .regs n := fun e => hy (.inr (.inl e))
  have e3 : y ≠ .frames n := fun e => hy (.inr (.inr e))
  subst hLd; simp [Lay.put, Lay.off, e1, e2, e3]
 have id0 : L0.id (.task n) = μ.next + 1 ∧ L0.id (.regs n) = μ.next ∧ L0.on (.regs n) = true ∧ L0.cap (.regs n) = 4 ∧ L0.on (.frames n) = false := by
  subst hLd; simp [Lay.put, Lay.off, Mem.new_next]
 have hl : (cat (trow L) 0 S.tasks).length = n * 1 := by rw [cat_length (trow_len L), hn]
 have hsct : L0.sc .tasks n = L.sc .tasks n := sc_eq (ag0 _ (by simp)).1 (ag0 _ (by simp)).2.1 (ag0 _ (by simp)).2.2 n
 obtain ⟨L1, μ1, ea, hL1, hs1, hoth, hob, hon, _, hidr⟩ := (hC.tmp (cs := [.ptr (some (μ.next + 1, 0))]) (sz := 1)).app hlC (r := .tasks) (bytes := 8) (n := n) (k := 1) (c := 1)
  (b := some (μ.next + 2, 0)) (new := [.ptr (some (μ.next + 1, 0))]) (by simp only [Con.upd]; rw [if_neg (by intro hh; cases hh), if_neg (by intro hh; cases hh)]; rfl) (by omega) hl (SlcVal.fresh rfl) ⟨by unfold most; omega, by unfold most; omega⟩ (.inl (by omega))
 obtain ⟨μ2, es, hL2, hs2, hn2, hob2⟩ := hL1.st (r := .mach) (sz := 0) (cs := mcells E L S) (o := 2) (new := [L1.sc .tasks (n + 1)])
  (by simp only [Con.upd]; rw [if_neg (by intro hh; cases hh), if_neg (by intro hh; cases hh), if_neg (by intro hh; cases hh)]; rfl) (.inl rfl) (by simp [mcells])
 have ag : ∀ y, ¬ (y = .tasks ∨ y = .task n ∨ y = .regs n ∨ y = .frames n) → L1.id y = L.id y ∧ L1.on y = L.on y ∧ L1.cap y = L.cap y := by
  intro y hy
  have h1 := hoth y (fun e => hy (.inl e))
  have h2 := ag0 y (fun e => hy (.inr e))
  exact ⟨h1.1.trans h2.1, h1.2.1.trans h2.2.1, h1.2.2.trans h2.2.2⟩
 have hsc : ∀ y, ¬ (y = .tasks ∨ y = .task n ∨ y = .regs n ∨ y = .frames n) → ∀ k, L1.sc y k = L.sc y k := fun y hy k => sc_eq (ag y hy).1 (ag y hy).2.1 (ag y hy).2.2 k
 have idn : L1.id (.task n) = μ.next + 1 := (hoth _ (by intro hh; cases hh)).1.trans id0.1
 have scr : L1.sc (.regs n) 4 = .slc (some (μ.next, 0)) 4 4 := by
  have a := hoth (.regs n) (by intro hh; cases hh)
  unfold Lay.sc; rw [a.1, a.2.1, a.2.2, id0.2.1, id0.2.2.1, id0.2.2.2.1]; rfl
 have hoff : L1.on (.frames n) = false := (hoth _ (by intro hh; cases hh)).2.1.trans id0.2.2.2.2
 have hm : L1.id .mach = E.m := (ag .mach (by simp)).1.trans h.m
 rw [hm] at es
 rw [hsct] at ea
 refine ⟨L1, μ1, μ2, ea, es, ⟨hL2.weaken' fun y sz cs hz => ?_, (h.same.new h.lo).trans ((Same.tmp (Nat.le_succ_of_le h.lo)).trans ((Same.tmp (by have := h.lo; simp only [Mem.new_next]; omega)).trans (hs1.trans hs2))), h.low, hm, h.plan, fun t ht => ?_⟩,
  ⟨(ag .mach (by simp)).1, fun j hj => (ag (.task j) (by simp; omega)).1⟩, ?_, fun j hj => hsc (.regs j) (by simp; omega) 4⟩
 ·have hget : ∀ j, (S.tasks ++ [newTask body state])[j]? = if j = n then some (newTask body state) else S.tasks[j]? := by
   intro j
   by_cases hj : j = n
   ·subst hj; rw [if_pos rfl, ← hn]; simp
   ·rw [if_neg hj]
    by_cases hlt : j < S.tasks.length
    ·rw [List.getElem?_append_left hlt]
    ·rw [List.getElem?_eq_none (by simp; omega), List.getElem?_eq_none (by omega)]
  by_cases y1 : y = .mach
  ·subst y1
   refine .inl ?_
   simp only [Con.upd, if_true]
   rw [← hz]
   simp only [icon, mcells, wr, List.set_cons_succ, List.set_cons_zero, hsc .recs (by simp), hsc .states (by simp), hsc .rings (by simp), hsc .std (by simp), List.length_append, List.length_cons, List.length_nil, Nat.zero_add, hn]
  by_cases y2 : y = .tasks
  ·subst y2
   refine .inl ?_
   simp only [Con.upd]
   rw [if_neg (by intro hh; cases hh), if_pos trivial]
   simp only [icon, cat_append, Nat.zero_add, hn] at hz
   rw [← hz]
   congr 2
   have e1 : cat (trow L1) 0 S.tasks = cat (trow L) 0 S.tasks := cat_congr fun j g hj => by
    have hlt := (List.getElem?_eq_some_iff.1 hj).1
    simp only [trow]; rw [(ag (.task (0 + j)) (by simp; omega)).1]
   rw [e1]
   simp only [cat, trow, idn, List.append_nil]
  by_cases y3 : y = .task n
  ·subst y3
   refine .inl ?_
   simp only [Con.upd]
   rw [if_neg (by intro hh; cases hh), if_neg (by intro hh; cases hh), if_pos trivial]
   simp only [icon, hget, if_true, Option.map_some] at hz
   rw [← hz]
   simp only [tcells, newTask, ntk, List.length_nil, scr]
   unfold Lay.sc
   rw [hoff]; rfl
  by_cases y4 : y = .regs n
  ·subst y4
   refine .inl ?_
   simp only [Con.upd]
   rw [if_neg (by intro hh; cases hh), if_neg (by intro hh; cases hh), if_neg (by intro hh; cases hh), if_pos trivial]
   simp only [icon, hget, if_true, Option.map_some] at hz
   rw [← hz]; rfl
  by_cases y5 : y = .frames n
  ·subst y5
   simp only [icon, hget, if_true, Option.map_some] at hz
   simp only [newTask, List.reverse_nil, cat, Option.some.injEq, Prod.mk.injEq] at hz
   exact .inr ⟨hoff, by omega, hz.2.symm⟩
  ·refine .inl ?_
   simp only [Con.upd]
   rw [if_neg y1, if_neg y2, if_neg y3, if_neg y4, ← hz]
   rw [← icon_eqs (E := E) (L := L) (L1 := L1) (S := S) (K := fun y => y = .tasks ∨ y = .task n ∨ y = .regs n ∨ y = .frames n) ag (by
    rintro z (rfl | rfl | rfl | rfl) <;> simp only [IR.up, ne_eq, Option.some.injEq] <;> intro hh
    ·exact y1 hh.symm
    ·exact y2 hh.symm
    ·exact y3 hh.symm
    ·exact y3 hh.symm)]
   cases y with
   | task j => simp only [icon, hget]; rw [if_neg (fun e => y3 (by rw [e]))]
   | regs j => simp only [icon, hget]; rw [if_neg (fun e => y4 (by rw [e]))]
   | frames j => simp only [icon, hget]; rw [if_neg (fun e => y5 (by rw [e]))]
   | met j q =>
    simp only [icon, hget]
    by_cases hj : j = n
    ·subst hj
     rw [if_pos rfl, hnone]; simp [newTask]
    ·rw [if_neg hj]
   | mach => exact absurd rfl y1
   | tasks => exact absurd rfl y2
   | _ => rfl
 ·rcases List.mem_append.1 ht with ht | ht
  ·exact h.regs t ht
  ·simp only [List.mem_singleton] at ht
   subst ht; rfl
 ·have honm : L1.on .mach = true := (ag .mach (by simp)).2.1.trans (h.has.on (r := .mach) rfl (.inl rfl))
  subst hLd
  exact ((((Keep.off.trans Keep.new).trans Keep.new).trans Keep.tmp).trans (Keep.app hs1.2 hoth hob hidr)).trans (Keep.st (r := .mach) honm hn2 hob2)

def dring (k : Nat) : IR → Option Unit | .ring j => if j = k then some () else none | _ => none

/-- A ring is kept: a list that lies above becomes a part. -/
theorem Rep.pushRing {μ0 : Mem} (h : Rep E L S μ0) (hs : Same μ0.next μ0 μ) {c : Cell} {l : List Int} (hN : Nums μ0.next μ c l) (x : Int) (hlen : S.rings.length < roomy) :
  ∃ L' μ1 μ2, aapp 2 32 (.c (L.sc .rings S.rings.length)) (.c (.slc (some (μ.next, 0)) 1 1)) (μ.new [.int .i64 x, c] 2) = some (.c (L'.sc .rings (S.rings.length + 1)), μ1) ∧
   μ1.st E.m 10 [L'.sc .rings (S.rings.length + 1)] = some μ2 ∧ Rep E L' { S with rings := S.rings ++ [⟨x, l⟩] } μ2 ∧ Stay S L L' ∧ Keep L μ0 L' μ2 ∧ c = L'.sc (.ring S.rings.length) l.length := by
 obtain ⟨Lu, hLu, hlo, rfl, hcap⟩ := hN
 have h1 := h.next hs
 have hg := h1.has.graft hLu h.lo h.has.lt (dring S.rings.length) (fun r r' k e1 e2 => by
  cases r <;> simp only [dring, reduceCtorEq] at e1
  cases r' <;> simp only [dring, reduceCtorEq] at e2
  split at e1
  ·split at e2
   ·rename_i a b; rw [a, b]
   ·cases e2
  ·cases e1)
 generalize hLd : L.graft Lu (dring S.rings.length) = L0 at hg
 have ag0 : ∀ y, y ≠ .ring S.rings.length → L0.id y = L.id y ∧ L0.on y = L.on y ∧ L0.cap y = L.cap y := by
  intro y hy
  subst hLd
  have : dring S.rings.length y = none := by
   cases y <;> simp only [dring]
   rename_i k; rw [if_neg (fun e => hy (by rw [e]))]
  simp only [Lay.graft, this, and_self]
 have sc0 : L0.sc (.ring S.rings.length) l.length = Lu.sc () l.length := by
  subst hLd; simp only [Lay.sc, Lay.graft, dring, if_true]
 have hnr : icon E L0 S .rings = some (2, cat (ringrow L) 0 S.rings) := by
  simp only [icon]
  rw [cat_congr (g := ringrow L0) (g' := ringrow L) fun j g hj => by
   have hlt := (List.getElem?_eq_some_iff.1 hj).1
   have a := ag0 (.ring (0 + j)) (by intro hh; injection hh; omega)
   simp only [ringrow, sc_eq a.1 a.2.1 a.2.2]]
 have h0 : Rep E L0 S μ := by
  refine ⟨hg.weaken fun y z hz => ?_, h1.same, h.low, (ag0 _ (by intro hh; cases hh)).1.trans h.m, h.plan, h.regs⟩
  by_cases hy : y = .ring S.rings.length
  ·subst hy; simp [icon] at hz
  ·have hd : dring S.rings.length y = none := by
    cases y <;> simp only [dring]
    rename_i k; rw [if_neg (fun e => hy (by rw [e]))]
   simp only [hd]
   by_cases hyr : y = .rings
   ·subst hyr; rw [← hz, hnr]; rfl
   ·rw [← icon_eqs (L1 := L0) (K := fun y => y = .ring S.rings.length) ag0 (by rintro z rfl; simp only [IR.up, ne_eq, Option.some.injEq]; exact Ne.symm hyr)]; exact hz
 have hcl : Has L0 (fun y => if y = .ring S.rings.length then some (1, cat irow 0 l) else icon E L0 S y) E.lo μ := by
  refine hg.weaken fun y z hz => ?_
  by_cases hy : y = .ring S.rings.length
  ·subst hy
   rw [if_pos rfl] at hz
   simp only [dring, if_true]; exact hz
  ·rw [if_neg hy] at hz
   have hd : dring S.rings.length y = none := by
    cases y <;> simp only [dring]
    rename_i k; rw [if_neg (fun e => hy (by rw [e]))]
   simp only [hd]
   by_cases hyr : y = .rings
   ·subst hyr; rw [← hz, hnr]; rfl
   ·rw [← icon_eqs (L1 := L0) (K := fun y => y = .ring S.rings.length) ag0 (by rintro z rfl; simp only [IR.up, ne_eq, Option.some.injEq]; exact Ne.symm hyr)]; exact hz
 unfold roomy at hlen
 obtain ⟨L1, μ1, ea, hL1, hs1, hoth, hob, hon, _, hidr⟩ := (hcl.tmp (cs := [.int .i64 x, Lu.sc () l.length]) (sz := 2)).app (Nat.le_succ_of_le (Nat.le_trans h.lo hlo)) (r := .rings) (sz := 2) (cs := cat (ringrow L) 0 S.rings) (bytes := 32) (n := S.rings.length) (k := 1) (c := 1)
  (b := some (μ.next, 0)) (new := [.int .i64 x, Lu.sc () l.length]) (by rw [if_neg (by intro hh; cases hh)]; exact hnr) (by omega) (by rw [cat_length (ringrow_len L)]) (SlcVal.fresh rfl) ⟨by unfold most; omega, by unfold most; omega⟩ (.inl (by omega))
 obtain ⟨μ2, es, hL2, hs2, hn2, hob2⟩ := hL1.st (r := .mach) (sz := 0) (cs := mcells E L0 S) (o := 10) (new := [L1.sc .rings (S.rings.length + 1)])
  (by simp only [Con.upd]; rw [if_neg (by intro hh; cases hh), if_neg (by intro hh; cases hh)]; rfl) (.inl rfl) (by simp [mcells])
 have ag : ∀ y, y ≠ .ring S.rings.length → y ≠ .rings → L1.id y = L.id y ∧ L1.on y = L.on y ∧ L1.cap y = L.cap y := fun y hy1 hy2 =>
  ⟨(hoth y hy2).1.trans (ag0 y hy1).1, (hoth y hy2).2.1.trans (ag0 y hy1).2.1, (hoth y hy2).2.2.trans (ag0 y hy1).2.2⟩
 have hsc : ∀ y, y ≠ .rings → ∀ k, L1.sc y k = L0.sc y k := fun y hy k => sc_eq (hoth y hy).1 (hoth y hy).2.1 (hoth y hy).2.2 k
 have hm : L1.id .mach = E.m := (ag .mach (by intro hh; cases hh) (by intro hh; cases hh)).1.trans h.m
 have hsr : L0.sc .rings S.rings.length = L.sc .rings S.rings.length := sc_eq (ag0 _ (by intro hh; cases hh)).1 (ag0 _ (by intro hh; cases hh)).2.1 (ag0 _ (by intro hh; cases hh)).2.2 _
 rw [hm] at es
 rw [hsr] at ea
 refine ⟨L1, μ1, μ2, ea, es, ⟨hL2.weaken fun y z hz => ?_, (h1.same.new (Nat.le_trans h.lo hlo)).trans (hs1.trans hs2), h.low, hm, h.plan, h.regs⟩, ⟨(ag .mach (by intro hh; cases hh) (by intro hh; cases hh)).1, fun i _ => (ag (.task i) (by intro hh; cases hh) (by intro hh; cases hh)).1⟩, ?_, ?_⟩
 ·by_cases y1 : y = .mach
  ·subst y1
   simp only [Con.upd, if_true]
   rw [← hz]
   simp only [icon, mcells, wr, List.set_cons_succ, List.set_cons_zero, hsc .tasks (by intro hh; cases hh), hsc .recs (by intro hh; cases hh), hsc .states (by intro hh; cases hh), hsc .std (by intro hh; cases hh), List.length_append, List.length_cons, List.length_nil, Nat.zero_add]
  ·simp only [Con.upd]
   rw [if_neg y1]
   by_cases y2 : y = .rings
   ·subst y2
    rw [if_pos rfl]
    simp only [icon, cat_append, cat, List.append_nil, Nat.zero_add] at hz ⊢
    rw [← hz]
    congr 2
    have e1 : cat (ringrow L1) 0 S.rings = cat (ringrow L) 0 S.rings := cat_congr fun j g hj => by
     have hlt := (List.getElem?_eq_some_iff.1 hj).1
     have a := ag (.ring (0 + j)) (by intro hh; injection hh; omega) (by intro hh; cases hh)
     simp only [ringrow, sc_eq a.1 a.2.1 a.2.2]
    rw [e1]
    simp only [ringrow, hsc (.ring S.rings.length) (by intro hh; cases hh), sc0]
   ·rw [if_neg y2]
    by_cases y3 : y = .ring S.rings.length
    ·subst y3
     rw [if_pos rfl]
     simp [icon] at hz
     rw [← hz]
    ·rw [if_neg y3, ← icon_eqs (E := E) (L := L0) (L1 := L1) (S := S) (K := fun y => y = .rings) (fun z hz => hoth z hz) (by rintro z rfl; simp only [IR.up, ne_eq, Option.some.injEq]; exact Ne.symm y1), ← hz]
     cases y with
     | ring k =>
      simp only [icon]
      by_cases hlt : k < S.rings.length
      ·rw [List.getElem?_append_left hlt]
      ·have hk : k ≠ S.rings.length := fun e => y3 (by rw [e])
       rw [List.getElem?_eq_none (l := S.rings) (i := k) (by omega), List.getElem?_eq_none (l := S.rings ++ [(⟨x, l⟩ : PRing)]) (i := k) (by simp only [List.length_append, List.length_cons, List.length_nil]; omega)]
     | mach => exact absurd rfl y1
     | rings => exact absurd rfl y2
     | _ => rfl
 ·have honm : L1.on .mach = true := (ag .mach (by intro hh; cases hh) (by intro hh; cases hh)).2.1.trans (h.has.on (r := .mach) rfl (.inl rfl))
  have k0 : Keep L μ0 L0 μ := by
   refine ⟨hs.2, fun b hb hf => ⟨hs.1 b hb, fun r hr => ?_⟩⟩
   by_cases hr' : r = .ring S.rings.length
   ·subst hr'
    subst hLd
    simp only [Lay.graft, dring, if_true] at hr ⊢
    have := hLu.ge () hr
    omega
   ·rw [(ag0 r hr').1]; exact hf r (by rw [← (ag0 r hr').2.1]; exact hr)
  exact ((k0.trans Keep.tmp).trans (Keep.app hs1.2 hoth hob hidr)).trans (Keep.st (r := .mach) honm hn2 hob2)
 ·rw [hsc (.ring S.rings.length) (by intro hh; cases hh), sc0]

def dstd : IR → Option SR
 | .std => some .std
 | .stdr i => some (.stdr i)
 | _ => none

/-- What stands is kept. -/
theorem Rep.setStand {μ0 μ1 : Mem} (h : Rep E L S μ0) (hs : Same μ0.next μ0 μ1) {Ls : Lay SR} {V : List PView} (hL : Has Ls (scon Ls V) μ0.next μ1) (ok : Bool) (run : Int) :
  ∃ L' μ2, μ1.st E.m 12 [.bool ok, .int .i64 run, Ls.sc .std V.length] = some μ2 ∧ Rep E L' { S with stand := ⟨ok, run, V⟩ } μ2 ∧ Stay S L L' ∧ Keep L μ0 L' μ2 ∧ (∀ i n, L'.sc (.ring i) n = L.sc (.ring i) n) := by
 have h1 : Rep E L S μ1 := h.next hs
 have hg := h1.has.graft hL h.lo h.has.lt dstd (fun r r' j e1 e2 => by
  cases r <;> simp only [dstd, Option.some.injEq] at e1 <;> first | (cases e1; done) | skip
  all_goals (subst e1; cases r' <;> simp only [dstd, Option.some.injEq, reduceCtorEq] at e2 <;> first | rfl | (injection e2 with e2; rw [e2])))
 generalize hLd : L.graft Ls dstd = L1 at hg
 have ag : ∀ y, ¬ (y = .std ∨ ∃ i, y = .stdr i) → L1.id y = L.id y ∧ L1.on y = L.on y ∧ L1.cap y = L.cap y := by
  intro y hy
  subst hLd
  cases y <;> first | exact ⟨rfl, rfl, rfl⟩ | exact absurd (.inl rfl) hy | exact absurd (.inr ⟨_, rfl⟩) hy
 have hstd : ∀ n, L1.sc .std n = Ls.sc .std n := by intro n; subst hLd; rfl
 have hstdr : ∀ i n, L1.sc (.stdr i) n = Ls.sc (.stdr i) n := by intro i n; subst hLd; rfl
 have hm : L1.id .mach = E.m := (ag _ (by simp)).1.trans h.m
 obtain ⟨μ2, es, hL2, hs2, hn2, hob2⟩ := hg.st (r := .mach) (sz := 0) (cs := mcells E L S) (o := 12) (new := [.bool ok, .int .i64 run, Ls.sc .std V.length]) (by simp only [dstd, icon]) (.inl rfl) (by simp [mcells])
 rw [hm] at es hob2
 have hon : L.on .mach = true := h.has.on (r := .mach) rfl (.inl rfl)
 have a : ∀ y, ¬ (y = IR.std ∨ ∃ i, y = .stdr i) → ∀ n, L1.sc y n = L.sc y n := fun y hy n => sc_eq (ag y hy).1 (ag y hy).2.1 (ag y hy).2.2 n
 refine ⟨L1, μ2, es, ⟨hL2.weaken fun y z hz => ?_, h1.same.trans hs2, h.low, hm, h.plan, h.regs⟩, ⟨(ag .mach (by simp)).1, fun j _ => (ag (.task j) (by simp)).1⟩, ⟨?_, fun b hb hf => ?_⟩, fun i n => a (.ring i) (by simp) n⟩
 ·by_cases y1 : y = .mach
  ·subst y1
   simp only [Con.upd, if_true]
   rw [← hz]
   simp only [icon, mcells, wr, List.set_cons_succ, List.set_cons_zero, a .tasks (by simp), a .recs (by simp), a .states (by simp), a .rings (by simp), hstd]
  ·simp only [Con.upd]
   rw [if_neg y1]
   cases y with
   | std =>
    simp only [icon] at hz
    simp only [dstd, scon]
    rw [← hz]
    congr 2
    exact (cat_congr fun j g hj => by simp only [viewrow, svrow, hstdr]).symm
   | stdr i =>
    simp only [icon] at hz
    exact hz
   | mach => exact absurd rfl y1
   | _ =>
    simp only [dstd]
    rw [← icon_eqs (E := E) (L := L) (L1 := L1) (S := S) ag (by rintro z (rfl | ⟨i, rfl⟩) <;> simp [IR.up])]
    exact hz
 ·rw [hn2]; exact hs.2
 ·refine ⟨(hob2 b (fun e => hf _ hon (by rw [h.m]; exact e.symm))).trans (hs.1 b hb), fun r hr => ?_⟩
  cases hd : dstd r with
  | none =>
   have : ¬ (r = .std ∨ ∃ i, r = .stdr i) := by
    rintro (rfl | ⟨i, rfl⟩) <;> simp [dstd] at hd
   rw [(ag r this).1]
   exact hf r (by rw [← (ag r this).2.1]; exact hr)
  | some j =>
   have e1 : L1.id r = Ls.id j ∧ L1.on r = Ls.on j := by subst hLd; simp only [Lay.graft, hd, and_self]
   rw [e1.1]
   rw [e1.2] at hr
   have := hL.ge j hr
   omega
end
end Go.Proofs.Ytibmnlijoeppaaa.X

/-
 How the program's machine lies in memory: a body that is opened, a ring that is told, the states at the end, what the hook keeps.
-/
import Derived.Test.YtibmnlijoeppaaaISt
namespace Go.Proofs.Ytibmnlijoeppaaa
set_option linter.unusedSimpArgs false
set_option linter.unusedVariables false

section
variable {E : IEnv} {L : Lay IR} {S : PM} {μ : Mem}

theorem icon_put {i : Nat} {t : PTk} (ht : S.tasks[i]? = some t) (t' : PTk) {y : IR} (h1 : y ≠ .task i) (h2 : y ≠ .frames i) (h3 : ∀ q, y ≠ .met i q) : icon E L (S.put i t') y = icon E L S y := by
 cases y with
 | mach => simp only [icon, mcells, PM.put, List.length_set]
 | tasks => simp only [icon, put_trow ht]
 | task j => simp only [icon, put_get ht]; rw [if_neg (by intro hh; exact h1 (by rw [hh]))]
 | frames j => simp only [icon, put_get ht]; rw [if_neg (by intro hh; exact h2 (by rw [hh]))]
 | met j q => simp only [icon, put_get ht]; rw [if_neg (by intro hh; exact h3 q (by rw [hh]))]
 | ring k => rfl
 | _ => simp only [icon, PM.put]

/-- A task's body is opened. -/
theorem Rep.start (h : Rep E L S μ) {i : Nat} {t : PTk} (ht : S.tasks[i]? = some t) (hf : t.frames = []) (f : PFr) (hmet : f.met = []) :
  ∃ L' μ2, (μ.new (nfr f) 8).st (L.id (.task i)) 12 [.slc (some (μ.next, 0)) 1 1] = some μ2 ∧ Rep E L' (S.put i { t with frames := [f] }) μ2 ∧ Stay S L L' ∧ Keep L μ L' μ2 := by
 have hti := h.regs t (List.mem_of_getElem? ht)
 have hA : Has (L.off fun x => decide (x = .met i 0)) (icon E L S) E.lo μ := h.has.off fun x sz cs hx => ⟨fun hp => (by
  have := of_decide_eq_true hp
  subst this
  simp only [icon, ht, Option.bind_some, hf] at hx
  cases hx), fun _ => hx⟩
 have hB := hA.new h.lo (r := .frames i) (sz := 8) (cs := nfr f) (cap := 1) (by rw [if_neg (by omega)]; rfl)
 generalize hLd : (L.off fun x => decide (x = .met i 0)).put (.frames i) μ.next 1 = L1 at hB
 have ag : ∀ y, ¬ (y = .frames i ∨ y = .met i 0) → L1.id y = L.id y ∧ L1.on y = L.on y ∧ L1.cap y = L.cap y := by
  intro y hy
  subst hLd
  have e1 : y ≠ .frames i := fun e => hy (.inl e)
  have e2 : y ≠ .met i 0 := fun e => hy (.inr e)
  simp [Lay.put, Lay.off, e1, e2]
 have hsc : ∀ y, ¬ (y = .frames i ∨ y = .met i 0) → ∀ n, L1.sc y n = L.sc y n := fun y hy n => sc_eq (ag y hy).1 (ag y hy).2.1 (ag y hy).2.2 n
 have hfr : L1.sc (.frames i) 1 = .slc (some (μ.next, 0)) 1 1 := by subst hLd; simp [Lay.sc, Lay.put]
 have hoff : L1.on (.met i 0) = false := by subst hLd; simp [Lay.put, Lay.off]
 have hidt : L1.id (.task i) = L.id (.task i) := (ag _ (by simp)).1
 have hct : ((icon E L S).upd (.frames i) (8, nfr f)) (.task i) = some (0, tcells L i t) := by
  simp only [Con.upd]; rw [if_neg (by intro hh; cases hh)]; simp only [icon, ht, Option.map_some]
 obtain ⟨μ2, es, hL2, hs2, hn2, hob2⟩ := hB.st (r := .task i) (o := 12) (new := [.slc (some (μ.next, 0)) 1 1]) hct (.inl rfl) (by simp [tcells])
 rw [hidt] at es hob2
 refine ⟨L1, μ2, es, ⟨hL2.weaken' fun y sz cs hz => ?_, (h.same.new h.lo).trans hs2, h.low, (ag .mach (by simp)).1.trans h.m, h.plan, put_regs h hti⟩, ⟨⟨(ag .mach (by simp)).1, (ag .hs (by simp)).1⟩, fun j _ => (ag (.task j) (by simp)).1⟩, ?_⟩
 ·by_cases y1 : y = .task i
  ·subst y1
   simp only [icon, put_get ht, if_true, Option.map_some] at hz
   refine .inl ?_
   simp only [Con.upd, if_true]
   rw [← hz]
   simp only [tcells, wr, List.set_cons_succ, List.set_cons_zero, List.length_cons, List.length_nil, Nat.zero_add, hfr]
  ·by_cases y2 : y = .frames i
   ·subst y2
    simp only [icon, put_get ht, if_true, Option.map_some] at hz
    refine .inl ?_
    simp only [Con.upd]
    rw [if_neg (by intro hh; cases hh), if_pos trivial, ← hz]
    have : L1.sc (.met i 0) 0 = .slc none 0 0 := by unfold Lay.sc; rw [hoff]; rfl
    simp only [List.reverse_cons, List.reverse_nil, List.nil_append, cat, List.append_nil, frow, nfr, hmet, List.length_nil, this]
   ·by_cases y3 : ∃ q, y = .met i q
    ·obtain ⟨q, rfl⟩ := y3
     simp only [icon, put_get ht, if_true, Option.bind_some] at hz
     rcases q with _ | q
     ·simp only [List.reverse_cons, List.reverse_nil, List.nil_append, List.getElem?_cons_zero, Option.map_some, hmet, Option.some.injEq, Prod.mk.injEq] at hz
      exact .inr ⟨hoff, by omega, hz.2.symm⟩
     ·simp at hz
    ·have y4 : ∀ q, y ≠ .met i q := fun q e => y3 ⟨q, e⟩
     rw [icon_put ht _ y1 y2 y4, icon_eqs (E := E) (S := S) ag (by rintro z (rfl | rfl) <;> simp only [IR.up, ne_eq, Option.some.injEq] <;> intro hh <;> first | exact y1 hh.symm | exact y2 hh.symm)] at hz
     refine .inl ?_
     simp only [Con.upd]
     rw [if_neg y1, if_neg y2, hz]
 ·have hont : L1.on (.task i) = true := (ag (.task i) (by simp)).2.1.trans (h.has.on (r := .task i) (sz := 0) (cs := tcells L i t) (by simp only [icon, ht, Option.map_some]) (.inl rfl))
  subst hLd
  exact (Keep.off.trans Keep.new).trans (Keep.st hont hn2 (by rw [hidt]; exact hob2))

/-- A state is told at the end. -/
theorem Rep.pushState (h : Rep E L S μ) (x : Int) (hlen : S.states.length < roomy) :
  ∃ L' μ1 μ2, aapp 1 8 (.c (L.sc .states S.states.length)) (.c (.slc (some (μ.next, 0)) 1 1)) (μ.new [.int .i64 x] 1) = some (.c (L'.sc .states (S.states.length + 1)), μ1) ∧
   μ1.st E.m 9 [L'.sc .states (S.states.length + 1)] = some μ2 ∧ Rep E L' { S with states := S.states ++ [x] } μ2 ∧ (∀ y, y ≠ .states → L'.id y = L.id y ∧ L'.on y = L.on y ∧ L'.cap y = L.cap y) ∧ Keep L μ L' μ2 := by
 unfold roomy at hlen
 have hl : (cat irow 0 S.states).length = S.states.length * 1 := by rw [cat_length irow_len]
 obtain ⟨L1, μ1, ea, hL1, hs1, hoth, hob, hon, _, hidr⟩ := (h.has.tmp (cs := [.int .i64 x]) (sz := 1)).app (Nat.le_succ_of_le h.lo) (r := .states) (bytes := 8) (n := S.states.length) (k := 1) (c := 1)
  (b := some (μ.next, 0)) (new := [.int .i64 x]) rfl (by omega) hl (SlcVal.fresh rfl) ⟨by unfold most; omega, by unfold most; omega⟩ (.inl (by omega))
 obtain ⟨μ2, es, hL2, hs2, hn2, hob2⟩ := hL1.st (r := .mach) (sz := 0) (cs := mcells E L S) (o := 9) (new := [L1.sc .states (S.states.length + 1)]) rfl (.inl rfl) (by simp [mcells])
 have hm : L1.id .mach = E.m := (hoth .mach (by intro hh; cases hh)).1.trans h.m
 rw [hm] at es
 refine ⟨L1, μ1, μ2, ea, es, ⟨hL2.weaken fun y z hz => ?_, (h.same.new h.lo).trans (hs1.trans hs2), h.low, hm, h.plan, h.regs⟩, hoth,
  (Keep.tmp.trans (Keep.app hs1.2 hoth hob hidr)).trans (Keep.st (r := .mach) ((hoth .mach (by intro hh; cases hh)).2.1.trans (h.has.on (r := .mach) rfl (.inl rfl))) hn2 hob2)⟩
 by_cases hy : y = .mach
 ·subst hy
  simp only [Con.upd, if_true]
  simp only [icon, Option.some.injEq] at hz ⊢
  rw [← hz]
  congr 1
  have hh : hookc L1 S.hook = hookc L S.hook := by
   unfold hookc; rw [(hoth .hn (by intro hh; cases hh)).1, (hoth .hk (by intro hh; cases hh)).1, (hoth .hs (by intro hh; cases hh)).1]
  have hsc : ∀ y, y ≠ .states → ∀ n, L1.sc y n = L.sc y n := fun y hy n => sc_eq (hoth y hy).1 (hoth y hy).2.1 (hoth y hy).2.2 n
  simp only [mcells, wr, List.set_cons_succ, List.set_cons_zero, hh, hsc .tasks (by intro hh; cases hh), hsc .recs (by intro hh; cases hh), hsc .rings (by intro hh; cases hh), List.length_append, List.length_cons, List.length_nil, Nat.zero_add]
 ·simp only [Con.upd]
  rw [if_neg hy]
  by_cases hy2 : y = .states
  ·subst hy2
   rw [if_pos rfl]
   simp only [icon, cat_append, cat, irow, List.append_nil] at hz ⊢
   exact hz
  ·rw [if_neg hy2, ← icon_eq (E := E) (S := S) hoth (x := y) (by intro hh; simp only [IR.up, Option.some.injEq] at hh; exact hy hh.symm), ← hz]
   cases y <;> first | rfl | exact absurd rfl hy | exact absurd rfl hy2

theorem icon_pend (p : Option (List Int)) {y : IR} (hy : y ≠ .ring S.rings.length) : icon { E with pend := p } L S y = icon E L S y := by
 cases y with
 | ring k => simp only [icon]; rw [if_neg (by intro hh; exact hy (by rw [hh])), if_neg (by intro hh; exact hy (by rw [hh]))]
 | _ => rfl

theorem icon_ring {L1 : Lay IR} (hag : ∀ y, y ≠ .ring S.rings.length → L1.id y = L.id y ∧ L1.on y = L.on y ∧ L1.cap y = L.cap y) (y : IR) : icon E L1 S y = icon E L S y := by
 by_cases hy : y = .rings
 ·subst hy
  simp only [icon]
  rw [cat_congr (g := ringrow L1) (g' := ringrow L) fun j g hj => by
   have hlt := (List.getElem?_eq_some_iff.1 hj).1
   have a := hag (.ring (0 + j)) (by intro hh; injection hh; omega)
   simp only [ringrow]; rw [sc_eq a.1 a.2.1 a.2.2]]
 ·exact icon_eq hag (x := y) (by intro hh; simp only [IR.up, Option.some.injEq] at hh; exact hy hh.symm)

/-- A ring begins to be told. -/
theorem Rep.pend0 (h : Rep E L S μ) : ∃ L', Rep { E with pend := some [] } L' S μ ∧ (∀ y, y ≠ .ring S.rings.length → L'.id y = L.id y ∧ L'.on y = L.on y ∧ L'.cap y = L.cap y) ∧ L'.sc (.ring S.rings.length) 0 = .slc none 0 0 ∧ Keep L μ L' μ := by
 have ag : ∀ y, y ≠ .ring S.rings.length → (L.off fun x => decide (x = .ring S.rings.length)).id y = L.id y ∧ (L.off fun x => decide (x = .ring S.rings.length)).on y = L.on y ∧ (L.off fun x => decide (x = .ring S.rings.length)).cap y = L.cap y := by
  intro y hy; simp [Lay.off, hy]
 refine ⟨L.off fun x => decide (x = .ring S.rings.length), ⟨h.has.off fun y sz cs hz => ?_, h.same, h.low, (ag .mach (by intro hh; cases hh)).1.trans h.m, h.plan, h.regs⟩, ag, ?_, Keep.off⟩
 ·by_cases hy : y = .ring S.rings.length
  ·subst hy
   simp only [icon, if_true, Option.map_some, Option.some.injEq, Prod.mk.injEq] at hz
   exact ⟨fun _ => ⟨by omega, hz.2.symm⟩, fun hh => absurd rfl (of_decide_eq_false hh)⟩
  ·rw [icon_pend _ hy, icon_ring ag] at hz
   exact ⟨fun hh => absurd (of_decide_eq_true hh) hy, fun _ => hz⟩
 ·unfold Lay.sc; simp [Lay.off]

/-- One more of a ring's tasks. -/
theorem Rep.pushPend (h : Rep E L S μ) {l : List Int} (hp : E.pend = some l) (x : Int) (hlen : l.length < roomy) :
  ∃ L' μ', aapp 1 8 (.c (L.sc (.ring S.rings.length) l.length)) (.c (.slc (some (μ.next, 0)) 1 1)) (μ.new [.int .i64 x] 1) = some (.c (L'.sc (.ring S.rings.length) (l.length + 1)), μ') ∧
   Rep { E with pend := some (l ++ [x]) } L' S μ' ∧ (∀ y, y ≠ .ring S.rings.length → L'.id y = L.id y ∧ L'.on y = L.on y ∧ L'.cap y = L.cap y) ∧ Keep L μ L' μ' := by
 unfold roomy at hlen
 have hc : icon E L S (.ring S.rings.length) = some (1, cat irow 0 l) := by simp only [icon, if_true, hp, Option.map_some]
 have hl : (cat irow 0 l).length = l.length * 1 := by rw [cat_length irow_len]
 obtain ⟨L1, μ1, ea, hL1, hs1, hoth, hob, hon, _, hidr⟩ := (h.has.tmp (cs := [.int .i64 x]) (sz := 1)).app (Nat.le_succ_of_le h.lo) (r := .ring S.rings.length) (bytes := 8) (n := l.length) (k := 1) (c := 1)
  (b := some (μ.next, 0)) (new := [.int .i64 x]) hc (by omega) hl (SlcVal.fresh rfl) ⟨by unfold most; omega, by unfold most; omega⟩ (.inl (by omega))
 refine ⟨L1, μ1, ea, ⟨hL1.weaken fun y z hz => ?_, (h.same.new h.lo).trans hs1, h.low, (hoth .mach (by intro hh; cases hh)).1.trans h.m, h.plan, h.regs⟩, hoth, Keep.tmp.trans (Keep.app hs1.2 hoth hob hidr)⟩
 simp only [Con.upd]
 by_cases hy : y = .ring S.rings.length
 ·subst hy
  rw [if_pos rfl]
  simp only [icon, if_true, Option.map_some, cat_append, cat, irow, List.append_nil] at hz
  exact hz
 ·rw [if_neg hy]
  rw [icon_pend _ hy, icon_ring hoth] at hz
  exact hz

/-- A ring is told. -/
theorem Rep.pushRing (h : Rep E L S μ) {l : List Int} (hp : E.pend = some l) (x : Int) (hlen : S.rings.length < roomy) :
  ∃ L' μ1 μ2, aapp 2 32 (.c (L.sc .rings S.rings.length)) (.c (.slc (some (μ.next, 0)) 1 1)) (μ.new [.int .i64 x, L.sc (.ring S.rings.length) l.length] 2) = some (.c (L'.sc .rings (S.rings.length + 1)), μ1) ∧
   μ1.st E.m 12 [L'.sc .rings (S.rings.length + 1)] = some μ2 ∧ Rep { E with pend := none } L' { S with rings := S.rings ++ [⟨x, l⟩] } μ2 ∧
   (∀ y, y ≠ .rings → L'.id y = L.id y ∧ L'.on y = L.on y ∧ L'.cap y = L.cap y) ∧ Keep L μ L' μ2 := by
 unfold roomy at hlen
 have hl : (cat (ringrow L) 0 S.rings).length = S.rings.length * 2 := by rw [cat_length (ringrow_len L)]
 obtain ⟨L1, μ1, ea, hL1, hs1, hoth, hob, hon, _, hidr⟩ := (h.has.tmp (cs := [.int .i64 x, L.sc (.ring S.rings.length) l.length]) (sz := 2)).app (Nat.le_succ_of_le h.lo) (r := .rings) (bytes := 32) (n := S.rings.length) (k := 1) (c := 1)
  (b := some (μ.next, 0)) (new := [.int .i64 x, L.sc (.ring S.rings.length) l.length]) rfl (by omega) hl (SlcVal.fresh rfl) ⟨by unfold most; omega, by unfold most; omega⟩ (.inl (by omega))
 obtain ⟨μ2, es, hL2, hs2, hn2, hob2⟩ := hL1.st (r := .mach) (sz := 0) (cs := mcells E L S) (o := 12) (new := [L1.sc .rings (S.rings.length + 1)]) rfl (.inl rfl) (by simp [mcells])
 have hm : L1.id .mach = E.m := (hoth .mach (by intro hh; cases hh)).1.trans h.m
 rw [hm] at es
 have hsc : ∀ y, y ≠ .rings → ∀ n, L1.sc y n = L.sc y n := fun y hy n => sc_eq (hoth y hy).1 (hoth y hy).2.1 (hoth y hy).2.2 n
 refine ⟨L1, μ1, μ2, ea, es, ⟨hL2.weaken fun y z hz => ?_, (h.same.new h.lo).trans (hs1.trans hs2), h.low, hm, h.plan, h.regs⟩, hoth,
  (Keep.tmp.trans (Keep.app hs1.2 hoth hob hidr)).trans (Keep.st (r := .mach) ((hoth .mach (by intro hh; cases hh)).2.1.trans (h.has.on (r := .mach) rfl (.inl rfl))) hn2 hob2)⟩
 by_cases hy : y = .mach
 ·subst hy
  simp only [Con.upd, if_true]
  simp only [icon, Option.some.injEq] at hz ⊢
  rw [← hz]
  congr 1
  have hh : hookc L1 S.hook = hookc L S.hook := by
   unfold hookc; rw [(hoth .hn (by intro hh; cases hh)).1, (hoth .hk (by intro hh; cases hh)).1, (hoth .hs (by intro hh; cases hh)).1]
  simp only [mcells, wr, List.set_cons_succ, List.set_cons_zero, hh, hsc .tasks (by intro hh; cases hh), hsc .recs (by intro hh; cases hh), hsc .states (by intro hh; cases hh), List.length_append, List.length_cons, List.length_nil, Nat.zero_add]
 ·simp only [Con.upd]
  rw [if_neg hy]
  by_cases hy2 : y = .rings
  ·subst hy2
   rw [if_pos rfl]
   simp only [icon, cat_append, cat, List.append_nil, Nat.zero_add] at hz ⊢
   rw [← hz]
   congr 2
   have e1 : cat (ringrow L1) 0 S.rings = cat (ringrow L) 0 S.rings := cat_congr fun j g hj => by
    simp only [ringrow]; rw [hsc (.ring (0 + j)) (by intro hh; cases hh)]
   rw [e1]
   simp only [ringrow, hsc (.ring S.rings.length) (by intro hh; cases hh)]
  ·rw [if_neg hy2, ← icon_eq (E := E) (S := S) hoth (x := y) (by intro hh; simp only [IR.up, Option.some.injEq] at hh; exact hy hh.symm), ← hz]
   cases y with
   | ring k =>
    simp only [icon, List.length_append, List.length_cons, List.length_nil, Nat.zero_add, hp, Option.map_some, Option.map_none]
    by_cases hk : k = S.rings.length
    ·subst hk
     rw [if_pos rfl, if_neg (by omega)]
     simp
    ·rw [if_neg hk]
     by_cases hk2 : k = S.rings.length + 1
     ·subst hk2
      rw [if_pos rfl]
      simp
     ·rw [if_neg hk2]
      by_cases hlt : k < S.rings.length
      ·rw [List.getElem?_append_left hlt]
      ·rw [List.getElem?_eq_none (l := S.rings) (i := k) (by omega), List.getElem?_eq_none (l := S.rings ++ [(⟨x, l⟩ : PRing)]) (i := k) (by simp only [List.length_append, List.length_cons, List.length_nil]; omega)]
   | mach => exact absurd rfl hy
   | rings => exact absurd rfl hy2
   | _ => rfl
end

/-! ### What the hook keeps -/

def Lay.graft {ι κ : Type} (L : Lay ι) (Ls : Lay κ) (d : ι → Option κ) : Lay ι :=
 ⟨fun r => match d r with | some k => Ls.id k | none => L.id r, fun r => match d r with | some k => Ls.on k | none => L.on r, fun r => match d r with | some k => Ls.cap k | none => L.cap r⟩

theorem Has.graft {ι κ : Type} [DecidableEq ι] [DecidableEq κ] {L : Lay ι} {Ls : Lay κ} {C : Con ι} {Cs : Con κ} {lo mid : Nat} {μ : Mem} (h : Has L C lo μ) (hL : Has Ls Cs mid μ) (hmid : lo ≤ mid)
  (hlt : ∀ r, L.on r = true → L.id r < mid) (d : ι → Option κ) (hd : ∀ r r' k, d r = some k → d r' = some k → r = r') :
  Has (L.graft Ls d) (fun r => match d r with | some k => Cs k | none => C r) lo μ := by
 have e1 : ∀ r k, d r = some k → (L.graft Ls d).id r = Ls.id k ∧ (L.graft Ls d).on r = Ls.on k ∧ (L.graft Ls d).cap r = Ls.cap k := by
  intro r k hk; simp only [Lay.graft, hk, and_self]
 have e2 : ∀ r, d r = none → (L.graft Ls d).id r = L.id r ∧ (L.graft Ls d).on r = L.on r ∧ (L.graft Ls d).cap r = L.cap r := by
  intro r hk; simp only [Lay.graft, hk, and_self]
 refine ⟨fun x y hx hy e => ?_, fun x hx => ?_, fun x hx => ?_, fun x sz cs e => ?_⟩
 ·cases hdx : d x with
  | none =>
   rw [(e2 x hdx).2.1] at hx
   rw [(e2 x hdx).1] at e
   cases hdy : d y with
   | none =>
    rw [(e2 y hdy).2.1] at hy
    rw [(e2 y hdy).1] at e
    exact h.inj _ _ hx hy e
   | some k =>
    rw [(e1 y k hdy).2.1] at hy
    rw [(e1 y k hdy).1] at e
    have := hlt x hx; have := hL.ge k hy; omega
  | some j =>
   rw [(e1 x j hdx).2.1] at hx
   rw [(e1 x j hdx).1] at e
   cases hdy : d y with
   | none =>
    rw [(e2 y hdy).2.1] at hy
    rw [(e2 y hdy).1] at e
    have := hlt y hy; have := hL.ge j hx; omega
   | some k =>
    rw [(e1 y k hdy).2.1] at hy
    rw [(e1 y k hdy).1] at e
    have := hL.inj _ _ hx hy e
    subst this
    exact hd _ _ _ hdx hdy
 ·cases hdx : d x with
  | none => rw [(e2 x hdx).2.1] at hx; rw [(e2 x hdx).1]; exact h.lt x hx
  | some j => rw [(e1 x j hdx).2.1] at hx; rw [(e1 x j hdx).1]; exact hL.lt j hx
 ·cases hdx : d x with
  | none => rw [(e2 x hdx).2.1] at hx; rw [(e2 x hdx).1]; exact h.ge x hx
  | some j => rw [(e1 x j hdx).2.1] at hx; rw [(e1 x j hdx).1]; exact Nat.le_trans hmid (hL.ge j hx)
 ·cases hdx : d x with
  | none =>
   rw [hdx] at e
   have := h.obj x sz cs e
   unfold There at this ⊢
   rw [(e2 x hdx).1, (e2 x hdx).2.1, (e2 x hdx).2.2]; exact this
  | some j =>
   rw [hdx] at e
   have := hL.obj j sz cs e
   unfold There at this ⊢
   rw [(e1 x j hdx).1, (e1 x j hdx).2.1, (e1 x j hdx).2.2]; exact this

def dstd : IR → Option SR
 | .std => some .std
 | .stdr i => some (.stdr i)
 | _ => none

section
variable {E : IEnv} {L : Lay IR} {S : PM} {μ0 μ1 : Mem}

theorem Rep.setStand (h : Rep E L S μ0) (hs : Same μ0.next μ0 μ1) {k : PHk} (hh : S.hook = some k) {Ls : Lay SR} {V : List PView} (hL : Has Ls (scon Ls V) μ0.next μ1) (ok : Bool) (run : Int) :
  ∃ L' μ2, μ1.st (L.id .hs) 0 [.bool ok, .int .i64 run, Ls.sc .std V.length] = some μ2 ∧ Rep E L' { S with hook := some { k with stand := ⟨ok, run, V⟩ } } μ2 ∧ Stay S L L' ∧ Keep L μ0 L' μ2 ∧ L'.id .hn = L.id .hn ∧ (∀ i n, L'.sc (.ring i) n = L.sc (.ring i) n) := by
 have h1 : Rep E L S μ1 := h.next hs
 have hlt : ∀ r, L.on r = true → L.id r < μ0.next := h.has.lt
 have hg := h1.has.graft hL h.lo hlt dstd (fun r r' j e1 e2 => by
  cases r <;> simp only [dstd, Option.some.injEq] at e1 <;> first | (cases e1; done) | skip
  all_goals (subst e1; cases r' <;> simp only [dstd, Option.some.injEq, reduceCtorEq] at e2 <;> first | rfl | (injection e2 with e2; rw [e2])))
 generalize hLd : L.graft Ls dstd = L1 at hg
 have ag : ∀ y, ¬ (y = .std ∨ ∃ i, y = .stdr i) → L1.id y = L.id y ∧ L1.on y = L.on y ∧ L1.cap y = L.cap y := by
  intro y hy
  subst hLd
  cases y <;> first | exact ⟨rfl, rfl, rfl⟩ | exact absurd (.inl rfl) hy | exact absurd (.inr ⟨_, rfl⟩) hy
 have hstd : ∀ n, L1.sc .std n = Ls.sc .std n := by intro n; subst hLd; rfl
 have hstdr : ∀ i n, L1.sc (.stdr i) n = Ls.sc (.stdr i) n := by intro i n; subst hLd; rfl
 have hidh : L1.id .hs = L.id .hs := (ag _ (by simp)).1
 obtain ⟨μ2, es, hL2, hs2, hn2, hob2⟩ := hg.st (r := .hs) (sz := 0) (cs := [.bool k.stand.ok, .int .i64 k.stand.running, L.sc .std k.stand.tasks.length]) (o := 0) (new := [.bool ok, .int .i64 run, Ls.sc .std V.length])
  (by simp only [dstd, icon, hh, Option.map_some]) (.inl rfl) (by simp)
 rw [hidh] at es hob2
 have hon : L.on .hs = true := h.has.on (r := .hs) (sz := 0) (cs := [.bool k.stand.ok, .int .i64 k.stand.running, L.sc .std k.stand.tasks.length]) (by simp only [icon, hh, Option.map_some]) (.inl rfl)
 refine ⟨L1, μ2, es, ⟨hL2.weaken fun y z hz => ?_, h1.same.trans hs2, h.low, (ag .mach (by simp)).1.trans h.m, h.plan, h.regs⟩, ⟨⟨(ag .mach (by simp)).1, (ag .hs (by simp)).1⟩, fun j _ => (ag (.task j) (by simp)).1⟩, ⟨?_, fun b hb hf => ?_⟩, (ag _ (by simp)).1, fun i n => sc_eq (ag (.ring i) (by simp)).1 (ag (.ring i) (by simp)).2.1 (ag (.ring i) (by simp)).2.2 n⟩
 ·by_cases y1 : y = .hs
  ·subst y1
   simp only [Con.upd, if_true]
   simp only [icon, Option.map_some] at hz
   rw [← hz, hstd]; rfl
  ·simp only [Con.upd]
   rw [if_neg y1]
   cases y with
   | std =>
    simp only [icon, Option.map_some] at hz
    simp only [dstd, scon]
    rw [← hz]
    congr 2
    exact (cat_congr fun j g hj => by simp only [viewrow, svrow, hstdr]).symm
   | stdr i =>
    simp only [icon, Option.bind_some] at hz
    exact hz
   | hs => exact absurd rfl y1
   | mach =>
    simp only [dstd]
    rw [← hz]
    have a : ∀ y, ¬ (y = IR.std ∨ ∃ i, y = .stdr i) → ∀ n, L1.sc y n = L.sc y n := fun y hy n => sc_eq (ag y hy).1 (ag y hy).2.1 (ag y hy).2.2 n
    simp only [icon, mcells, hookc, hh, a .tasks (by simp), a .recs (by simp), a .states (by simp), a .rings (by simp), (ag .hn (by simp)).1, (ag .hk (by simp)).1, (ag .hs (by simp)).1]
   | hn => simpa only [icon, dstd, hh, Option.map_some] using hz
   | hk => simpa only [icon, dstd, hh, Option.map_some] using hz
   | _ =>
    simp only [dstd]
    rw [← icon_eqs (E := E) (L := L) (L1 := L1) (S := S) ag (by rintro z (rfl | ⟨i, rfl⟩) <;> simp [IR.up])]
    exact hz
 ·rw [hn2]; exact hs.2
 ·refine ⟨(hob2 b (fun e => hf _ hon e.symm)).trans (hs.1 b hb), fun r hr => ?_⟩
  cases hd : dstd r with
  | none =>
   have : ¬ (r = .std ∨ ∃ i, r = .stdr i) := by
    rintro (rfl | ⟨i, rfl⟩) <;> simp [dstd] at hd
   rw [(ag r this).1]
   exact hf r (by rw [← (ag r this).2.1]; exact hr)
  | some j =>
   have e1 : L1.id r = Ls.id j ∧ L1.on r = Ls.on j := by subst hLd; simp only [Lay.graft, hd, and_self]
   rw [e1.1]
   rw [e1.2] at hr
   have := hL.ge j hr
   omega

theorem Rep.setHn (h : Rep E L S μ0) {k : PHk} (hh : S.hook = some k) (n : Int) :
  ∃ μ', μ0.st (L.id .hn) 0 [.int .i64 n] = some μ' ∧ Rep E L { S with hook := some { k with n := n } } μ' ∧ Keep L μ0 L μ' := by
 obtain ⟨μ', e, h1, h2, h3, h4⟩ := h.has.st (r := .hn) (sz := 0) (cs := [.int .i64 k.n]) (o := 0) (new := [.int .i64 n]) (by simp only [icon, hh, Option.map_some]) (.inl rfl) (by simp)
 refine ⟨μ', e, ⟨h1.weaken fun y z hz => ?_, h.same.trans h2, h.low, h.m, h.plan, h.regs⟩, Keep.st (r := .hn) (h.has.on (r := .hn) (sz := 0) (cs := [.int .i64 k.n]) (by simp only [icon, hh, Option.map_some]) (.inl rfl)) h3 h4⟩
 simp only [Con.upd]
 by_cases y1 : y = .hn
 ·subst y1
  rw [if_pos rfl]
  simpa only [icon, Option.map_some, wr, List.set_cons_zero] using hz
 ·rw [if_neg y1]
  rw [← hz]
  cases y <;> first | exact absurd rfl y1 | simp only [icon, mcells, hookc, hh, Option.map_some, Option.bind_some] | rfl

/-- What the hook's cells are. -/
theorem Rep.hfacts (h : Rep E L S μ0) {k : PHk} (hh : S.hook = some k) : μ0.ld none (L.id .hn) 0 = some (.c (.int .i64 k.n)) ∧ μ0.ld none (L.id .hk) 0 = some (.c (.int .i64 k.k)) :=
 ⟨h.has.ldc (r := .hn) (sz := 0) (cs := [.int .i64 k.n]) (by simp only [icon, hh, Option.map_some]) rfl, h.has.ldc (r := .hk) (sz := 0) (cs := [.int .i64 k.k]) (by simp only [icon, hh, Option.map_some]) rfl⟩
end
end Go.Proofs.Ytibmnlijoeppaaa

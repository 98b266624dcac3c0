/-
 How the reference's machine lies in memory.
-/
import Derived.Test.YtibmnlijoeppaaaXM
import Derived.Test.YtibmnlijoeppaaaIRep2
import Derived.Test.YtibmnlijoeppaaaIW4
namespace Go.Proofs.Ytibmnlijoeppaaa.X
set_option linter.unusedSimpArgs false
set_option linter.unusedVariables false

inductive IR where
 | mach
 | tasks
 | task (i : Nat)
 | regs (i : Nat)
 | frames (i : Nat)
 | met (i j : Nat)
 | recs
 | states
 | rings
 | ring (k : Nat)
 | std
 | stdr (i : Nat)
 deriving DecidableEq

structure IEnv where
 lo : Nat
 out : Mem
 m : Nat
 pl : Cell
 plan : PPlan

def frow (L : Lay IR) (i j : Nat) (f : PFr) : List Cell :=
 [.int .i64 f.hd, .int .i64 f.op, .int .i64 f.pc, .int .i64 f.fin, L.sc (.met i j) f.met.length, .bool f.leaving, .int .i64 f.way, .int .i64 f.num]
def tcells (L : Lay IR) (i : Nat) (t : PTk) : List Cell :=
 [.int .i64 t.body, .int .i64 t.state, L.sc (.regs i) 4, .int .i64 t.waiter, .int .i64 t.into, .bool t.given, .bool t.drops, .int .i64 t.drop, .int .i64 t.kept, .int .i64 t.begun, L.sc (.frames i) t.frames.length]
def trow (L : Lay IR) (i : Nat) (_ : PTk) : List Cell := [.ptr (some (L.id (.task i), 0))]
def ringrow (L : Lay IR) (k : Nat) (r : PRing) : List Cell := [.int .i64 r.pos, L.sc (.ring k) r.tasks.length]
def viewrow (L : Lay IR) (i : Nat) (v : PView) : List Cell :=
 [.int .i64 v.body, .int .i64 v.state, L.sc (.stdr i) v.regs.length, .int .i64 v.waiter, .int .i64 v.blocks, .int .i64 v.kept, .int .i64 v.begun]

def mcells (E : IEnv) (L : Lay IR) (S : PM) : List Cell :=
 [E.pl, .int .i64 S.left, L.sc .tasks S.tasks.length, .int .i64 S.run, .bool S.over, .int .i64 S.code, L.sc .recs S.recs.length, .int .i64 S.num, .int .i64 S.ticks, L.sc .states S.states.length,
 L.sc .rings S.rings.length, .int .i64 S.stop, .bool S.stand.ok, .int .i64 S.stand.running, L.sc .std S.stand.tasks.length]

def icon (E : IEnv) (L : Lay IR) (S : PM) : Con IR
 | .mach => some (0, mcells E L S)
 | .tasks => some (1, cat (trow L) 0 S.tasks)
 | .task i => (S.tasks[i]?).map fun t => (0, tcells L i t)
 | .regs i => (S.tasks[i]?).map fun t => (1, cat irow 0 t.regs)
 | .frames i => (S.tasks[i]?).map fun t => (8, cat (frow L i) 0 t.frames.reverse)
 | .met i j => (S.tasks[i]?).bind fun t => (t.frames.reverse[j]?).map fun f => (1, cat irow 0 f.met.reverse)
 | .recs => some (4, cat recrow 0 S.recs)
 | .states => some (1, cat irow 0 S.states)
 | .rings => some (2, cat (ringrow L) 0 S.rings)
 | .ring k => (S.rings[k]?).map fun r => (1, cat irow 0 r.tasks)
 | .std => some (7, cat (viewrow L) 0 S.stand.tasks)
 | .stdr i => (S.stand.tasks[i]?).map fun v => (1, cat irow 0 v.regs)

structure Rep (E : IEnv) (L : Lay IR) (S : PM) (μ : Mem) : Prop where
 has : Has L (icon E L S) E.lo μ
 same : Same E.lo E.out μ
 low : E.lo ≤ E.out.next
 m : L.id .mach = E.m
 plan : PlanR E.lo E.out E.pl E.plan
 regs : ∀ t ∈ S.tasks, t.regs.length = 4

theorem Rep.lo {E : IEnv} {L : Lay IR} {S : PM} {μ : Mem} (h : Rep E L S μ) : E.lo ≤ μ.next := Nat.le_trans h.low h.same.2

/-- Where the machine and its tasks lie stays. -/
def Stay (S : PM) (L L' : Lay IR) : Prop := L'.id .mach = L.id .mach ∧ ∀ i, i < S.tasks.length → L'.id (.task i) = L.id (.task i)
theorem Stay.refl {S : PM} {L : Lay IR} : Stay S L L := ⟨rfl, fun _ _ => rfl⟩
theorem Stay.trans {S S' : PM} {L L' L'' : Lay IR} (h : Stay S L L') (h' : Stay S' L' L'') (hl : S.tasks.length ≤ S'.tasks.length) : Stay S L L'' :=
 ⟨h'.1.trans h.1, fun i hi => (h'.2 i (by omega)).trans (h.2 i hi)⟩

/-- What is not the machine's. -/
def Free (L : Lay IR) (b : Nat) : Prop := ∀ r, L.on r = true → L.id r ≠ b
structure Keep (L : Lay IR) (μ : Mem) (L' : Lay IR) (μ' : Mem) : Prop where
 next : μ.next ≤ μ'.next
 keep : ∀ b, b < μ.next → Free L b → μ'.obj b = μ.obj b ∧ Free L' b
theorem Keep.refl {L : Lay IR} {μ : Mem} : Keep L μ L μ := ⟨Nat.le_refl _, fun _ _ hf => ⟨rfl, hf⟩⟩
theorem Keep.trans {L L' L'' : Lay IR} {μ μ' μ'' : Mem} (h : Keep L μ L' μ') (h' : Keep L' μ' L'' μ'') : Keep L μ L'' μ'' :=
 ⟨Nat.le_trans h.next h'.next, fun b hb hf => by
  obtain ⟨e, f⟩ := h.keep b hb hf
  obtain ⟨e', f'⟩ := h'.keep b (Nat.lt_of_lt_of_le hb h.next) f
  exact ⟨e'.trans e, f'⟩⟩
theorem Keep.tmp {L : Lay IR} {μ : Mem} {cs : List Cell} {sz : Nat} : Keep L μ L (μ.new cs sz) :=
 ⟨Nat.le_succ _, fun b hb hf => ⟨by simp only [Mem.new]; rw [if_neg (by omega)], hf⟩⟩
theorem Keep.st {L : Lay IR} {μ μ' : Mem} {r : IR} (hr : L.on r = true) (hn : μ'.next = μ.next) (hb : ∀ b, b ≠ L.id r → μ'.obj b = μ.obj b) : Keep L μ L μ' :=
 ⟨by rw [hn]; exact Nat.le_refl _, fun b _ hf => ⟨hb b (fun e => hf r hr e.symm), hf⟩⟩
theorem Keep.app {L L' : Lay IR} {μ μ' : Mem} {r : IR} (hn : μ.next ≤ μ'.next) (hoth : ∀ x, x ≠ r → L'.id x = L.id x ∧ L'.on x = L.on x ∧ L'.cap x = L.cap x)
  (hob : ∀ b, (L.on r = true → b ≠ L.id r) → b < μ.next → μ'.obj b = μ.obj b) (hid : L'.on r = true → (L.on r = true ∧ L'.id r = L.id r) ∨ L'.id r = μ.next) : Keep L μ L' μ' := by
 refine ⟨hn, fun b hb hf => ⟨hob b (fun hr e => hf r hr e.symm) hb, fun x hx => ?_⟩⟩
 by_cases hxr : x = r
 ·subst hxr
  rcases hid hx with ⟨h1, h2⟩ | h2
  ·rw [h2]; exact hf x h1
  ·omega
 ·rw [(hoth x hxr).1]; exact hf x (by rw [← (hoth x hxr).2.1]; exact hx)

theorem Keep.off {L : Lay IR} {μ : Mem} {p : IR → Bool} : Keep L μ (L.off p) μ :=
 ⟨Nat.le_refl _, fun b _ hf => ⟨rfl, fun r hr => by
  simp only [Lay.off] at hr ⊢
  split at hr
  ·cases hr
  ·exact hf r hr⟩⟩
theorem Keep.new {L : Lay IR} {μ : Mem} {r : IR} {cap sz : Nat} {cs : List Cell} : Keep L μ (L.put r μ.next cap) (μ.new cs sz) :=
 ⟨Nat.le_succ _, fun b hb hf => ⟨by simp only [Mem.new]; rw [if_neg (by omega)], fun x hx => by
  by_cases hxr : x = r
  ·simp only [Lay.put, hxr, if_true]; omega
  ·simp only [Lay.put, if_neg hxr] at hx ⊢; exact hf x hx⟩⟩

section
variable {E : IEnv} {L : Lay IR} {S : PM} {μ : Mem}

theorem trow_len (L : Lay IR) (i : Nat) (t : PTk) : (trow L i t).length = 1 := rfl
theorem frow_len (L : Lay IR) (i j : Nat) (f : PFr) : (frow L i j f).length = 8 := rfl
theorem ringrow_len (L : Lay IR) (i : Nat) (r : PRing) : (ringrow L i r).length = 2 := rfl
theorem viewrow_len (L : Lay IR) (i : Nat) (v : PView) : (viewrow L i v).length = 7 := rfl

theorem Rep.tmp (h : Rep E L S μ) {cs : List Cell} {sz : Nat} : Rep E L S (μ.new cs sz) :=
 ⟨h.has.tmp, h.same.new h.lo, h.low, h.m, h.plan, h.regs⟩
theorem Rep.next {μ' : Mem} (h : Rep E L S μ) (hs : Same μ.next μ μ') : Rep E L S μ' :=
 ⟨h.has.same hs (Nat.le_refl _), h.same.trans (hs.mono h.lo), h.low, h.m, h.plan, h.regs⟩
theorem Rep.ldm (h : Rep E L S μ) {o : Nat} {c : Cell} (hc : (mcells E L S)[o]? = some c) : μ.ld none E.m o = some (.c c) := by
 rw [← h.m]; exact h.has.ldc (r := .mach) rfl hc
theorem Rep.ldt (h : Rep E L S μ) {i : Nat} {t : PTk} (ht : S.tasks[i]? = some t) {o : Nat} {c : Cell} (hc : (tcells L i t)[o]? = some c) : μ.ld none (L.id (.task i)) o = some (.c c) :=
 h.has.ldc (r := .task i) (sz := 0) (cs := tcells L i t) (by simp only [icon, ht, Option.map_some]) hc

theorem put_get {S : PM} {i : Nat} {t t' : PTk} (ht : S.tasks[i]? = some t) (j : Nat) : (S.put i t').tasks[j]? = if j = i then some t' else S.tasks[j]? := by
 have hi : i < S.tasks.length := (List.getElem?_eq_some_iff.1 ht).1
 simp only [PM.put, Int.toNat_natCast]
 by_cases hj : j = i
 ·subst hj; rw [if_pos rfl, List.getElem?_set_self hi]
 ·rw [if_neg hj, List.getElem?_set_ne (Ne.symm hj)]
theorem put_at {i : Nat} {t t' : PTk} (ht : S.tasks[i]? = some t) : (S.put i t').tasks[i]? = some t' := by rw [put_get ht, if_pos rfl]
theorem put_put {i : Nat} {t t' : PTk} : (S.put i t).put i t' = S.put i t' := by simp [PM.put]
theorem put_trow {L' : Lay IR} {i : Nat} {t t' : PTk} (ht : S.tasks[i]? = some t) : cat (trow L') 0 (S.put i t').tasks = cat (trow L') 0 S.tasks := by
 have := cat_wr (trow_len L') (new := []) (l := S.tasks) (i := 0) (j := i) (k := 0) (a' := t') ht (by simp) rfl
 exact this.symm
theorem put_regs (h : Rep E L S μ) {i : Nat} {t' : PTk} (hr : t'.regs.length = 4) : ∀ t ∈ (S.put i t').tasks, t.regs.length = 4 := by
 intro u hm
 simp only [PM.put, Int.toNat_natCast] at hm
 rcases List.mem_or_eq_of_mem_set hm with hm | rfl
 ·exact h.regs u hm
 ·exact hr
theorem Stay.put {L' : Lay IR} {i : Nat} {t : PTk} (s : Stay (S.put i t) L L') : Stay S L L' := ⟨s.1, fun j hj => s.2 j (by simp only [PM.put, List.length_set]; exact hj)⟩
theorem Stay.cast {S' : PM} {L' : Lay IR} (s : Stay S' L L') (e : S.tasks.length = S'.tasks.length) : Stay S L L' := ⟨s.1, fun j hj => s.2 j (by omega)⟩

/-- A change of one task changes only its own parts. -/
theorem icon_put {i : Nat} {t : PTk} (ht : S.tasks[i]? = some t) (t' : PTk) {y : IR} (h1 : y ≠ .task i) (h2 : y ≠ .frames i) (h3 : ∀ q, y ≠ .met i q) (h4 : y ≠ .regs i) : icon E L (S.put i t') y = icon E L S y := by
 cases y with
 | mach => simp only [icon, mcells, PM.put, List.length_set]
 | tasks => simp only [icon, put_trow ht]
 | task j => simp only [icon, put_get ht]; rw [if_neg (by intro hh; exact h1 (by rw [hh]))]
 | frames j => simp only [icon, put_get ht]; rw [if_neg (by intro hh; exact h2 (by rw [hh]))]
 | regs j => simp only [icon, put_get ht]; rw [if_neg (by intro hh; exact h4 (by rw [hh]))]
 | met j q => simp only [icon, put_get ht]; rw [if_neg (by intro hh; exact h3 q (by rw [hh]))]
 | _ => simp only [icon, PM.put]

/-- One part's cells change, nothing else. -/
theorem Rep.stAt (h : Rep E L S μ) {S' : PM} {r : IR} {sz o : Nat} {cs new : List Cell} (hc : icon E L S r = some (sz, cs)) (hne : sz = 0 ∨ cs ≠ []) (hl : o + new.length ≤ cs.length)
  (hr : icon E L S' r = some (sz, wr cs o new)) (ho : ∀ y, y ≠ r → icon E L S' y = icon E L S y) (hg : ∀ t ∈ S'.tasks, t.regs.length = 4) :
  ∃ μ', μ.st (L.id r) o new = some μ' ∧ Rep E L S' μ' ∧ Keep L μ L μ' := by
 obtain ⟨μ', e, h1, h2, h3, h4⟩ := h.has.st (r := r) (o := o) (new := new) hc hne hl
 refine ⟨μ', e, ⟨h1.weaken fun y x hx => ?_, h.same.trans h2, h.low, h.m, h.plan, hg⟩, Keep.st (h.has.on hc hne) h3 h4⟩
 simp only [Con.upd]
 by_cases hy : y = r
 ·subst hy; rw [if_pos rfl, ← hr, hx]
 ·rw [if_neg hy, ← ho y hy, hx]

theorem Rep.setMach (h : Rep E L S μ) {S' : PM} {o : Nat} {new : List Cell} (hw : wr (mcells E L S) o new = mcells E L S') (hb : o + new.length ≤ 15)
  (ht : S'.tasks = S.tasks) (hr : S'.recs = S.recs) (hst : S'.states = S.states) (hri : S'.rings = S.rings) (hh : S'.stand = S.stand) :
  ∃ μ', μ.st E.m o new = some μ' ∧ Rep E L S' μ' ∧ Keep L μ L μ' := by
 rw [← h.m]
 refine h.stAt (r := .mach) rfl (.inl rfl) hb (by simp only [icon, hw]) (fun y hy => ?_) (fun t hm => h.regs t (by rw [← ht]; exact hm))
 cases y <;> simp only [icon, ht, hr, hst, hri, hh] <;> exact absurd rfl hy

theorem Rep.setTask (h : Rep E L S μ) {i : Nat} {t t' : PTk} (ht : S.tasks[i]? = some t) {o : Nat} {new : List Cell} (hw : wr (tcells L i t) o new = tcells L i t') (hb : o + new.length ≤ 11)
  (hf : t'.frames = t.frames) (hr : t'.regs = t.regs) :
  ∃ μ', μ.st (L.id (.task i)) o new = some μ' ∧ Rep E L (S.put i t') μ' ∧ Keep L μ L μ' := by
 have hti := h.regs t (List.mem_of_getElem? ht)
 refine h.stAt (r := .task i) (sz := 0) (cs := tcells L i t) (by simp only [icon, ht, Option.map_some]) (.inl rfl) hb (by simp only [icon, put_at ht, Option.map_some, hw]) (fun y hy => ?_) (put_regs h (by rw [hr]; exact hti))
 by_cases h2 : y = .frames i
 ·subst h2; simp only [icon, put_at ht, ht, Option.map_some, hf]
 ·by_cases h3 : ∃ q, y = .met i q
  ·obtain ⟨q, rfl⟩ := h3; simp only [icon, put_at ht, ht, Option.bind_some, hf]
  ·by_cases h4 : y = .regs i
   ·subst h4; simp only [icon, put_at ht, ht, Option.map_some, hr]
   ·exact icon_put ht _ hy h2 (fun q e => h3 ⟨q, e⟩) h4

theorem Rep.regsc (h : Rep E L S μ) {i : Nat} {t : PTk} (ht : S.tasks[i]? = some t) : icon E L S (.regs i) = some (1, cat irow 0 t.regs) ∧ cat irow 0 t.regs ≠ [] ∧ L.on (.regs i) = true := by
 have hc : icon E L S (.regs i) = some (1, cat irow 0 t.regs) := by simp only [icon, ht, Option.map_some]
 have hti := h.regs t (List.mem_of_getElem? ht)
 have hne : cat irow 0 t.regs ≠ [] := by
  intro hh
  have := cat_length irow_len (l := t.regs) (i := 0)
  rw [hh, hti] at this
  simp at this
 exact ⟨hc, hne, h.has.on hc (.inr hne)⟩

/-- A register. -/
theorem Rep.regAt (h : Rep E L S μ) {i : Nat} {t : PTk} (ht : S.tasks[i]? = some t) {a : Int} (ha : 0 ≤ a ∧ a < 4) :
  ∀ kd, aidx (.c (L.sc (.regs i) 4)) (.c (.int kd a)) 1 = some (pt (L.id (.regs i)) a.toNat) := by
 intro kd
 rw [Lay.sc_slc (h.regsc ht).2.2, aidx_in (by omega)]
 simp

theorem Rep.ldreg (h : Rep E L S μ) {i : Nat} {t : PTk} (ht : S.tasks[i]? = some t) {a v : Int} (hv : t.reg a = some v) :
  (∀ kd, aidx (.c (L.sc (.regs i) 4)) (.c (.int kd a)) 1 = some (pt (L.id (.regs i)) a.toNat)) ∧ μ.ld none (L.id (.regs i)) a.toNat = some (.c (.int .i64 v)) := by
 unfold PTk.reg at hv
 split at hv
 ·rename_i ha
  refine ⟨h.regAt ht ha, h.has.ldc (h.regsc ht).1 ?_⟩
  have := cat_get irow_len (i := 0) (k := 0) hv (by omega)
  simpa [irow] using this
 ·cases hv

theorem Rep.setReg (h : Rep E L S μ) {i : Nat} {t t' : PTk} (ht : S.tasks[i]? = some t) {a v : Int} (hv : t.setReg a v = some t') :
  (∀ kd, aidx (.c (L.sc (.regs i) 4)) (.c (.int kd a)) 1 = some (pt (L.id (.regs i)) a.toNat)) ∧ ∃ μ', μ.st (L.id (.regs i)) a.toNat [.int .i64 v] = some μ' ∧ Rep E L (S.put i t') μ' ∧ Keep L μ L μ' := by
 unfold PTk.setReg at hv
 split at hv
 ·rename_i ha
  simp only [Option.some.injEq] at hv
  subst hv
  refine ⟨h.regAt ht ha, ?_⟩
  have hti := h.regs t (List.mem_of_getElem? ht)
  obtain ⟨hc, hne, _⟩ := h.regsc ht
  have hlt : a.toNat < t.regs.length := by omega
  refine h.stAt hc (.inr hne) (by rw [cat_length irow_len]; simp; omega) ?_ (fun y hy => ?_) (put_regs h (by simp [hti]))
  ·simp only [icon, put_at ht, Option.map_some]
   congr 2
   have := cat_wr irow_len (new := [.int .i64 v]) (l := t.regs) (i := 0) (j := a.toNat) (k := 0) (a' := v) (List.getElem?_eq_getElem hlt) (by simp) (by simp [irow, wr])
   simpa using this.symm
  ·by_cases h2 : y = .frames i
   ·subst h2; simp only [icon, put_at ht, ht, Option.map_some]
   ·by_cases h3 : ∃ q, y = .met i q
    ·obtain ⟨q, rfl⟩ := h3; simp only [icon, put_at ht, ht, Option.bind_some]
    ·by_cases h4 : y = .task i
     ·subst h4; simp only [icon, put_at ht, ht, Option.map_some, tcells]
     ·exact icon_put ht _ h4 h2 (fun q e => h3 ⟨q, e⟩) hy
 ·cases hv

theorem Rep.framesc (h : Rep E L S μ) {i : Nat} {t : PTk} {f : PFr} {r : List PFr} (ht : S.tasks[i]? = some t) (hf : t.frames = f :: r) :
  icon E L S (.frames i) = some (8, cat (frow L i) 0 (f :: r).reverse) ∧ (cat (frow L i) 0 (f :: r).reverse).length = (r.length + 1) * 8 ∧ cat (frow L i) 0 (f :: r).reverse ≠ [] := by
 have hlen : (cat (frow L i) 0 (f :: r).reverse).length = (r.length + 1) * 8 := by rw [cat_length (frow_len L i)]; simp
 exact ⟨by simp only [icon, ht, Option.map_some, hf], hlen, by intro hh; rw [hh] at hlen; simp at hlen⟩

/-- The innermost block's own cells change. -/
theorem Rep.setTop (h : Rep E L S μ) {i : Nat} {t : PTk} {f f' : PFr} {r : List PFr} (ht : S.tasks[i]? = some t) (hf : t.frames = f :: r) {k : Nat} {new : List Cell}
  (hw : wr (frow L i r.length f) k new = frow L i r.length f') (hk : k + new.length ≤ 8) (hm : f'.met = f.met) :
  ∃ μ', μ.st (L.id (.frames i)) (r.length * 8 + k) new = some μ' ∧ Rep E L (S.put i { t with frames := f' :: r }) μ' ∧ Keep L μ L μ' := by
 obtain ⟨hc, hlen, hne⟩ := h.framesc ht hf
 refine h.stAt hc (.inr hne) (by rw [hlen]; omega) ?_ (fun y hy => ?_) (put_regs h (h.regs t (List.mem_of_getElem? ht)))
 ·simp only [icon, put_at ht, Option.map_some]
  rw [cat_wr (frow_len L i) get_top hk (by rw [Nat.zero_add]; exact hw), set_top]
 ·by_cases h2 : y = .task i
  ·subst h2; simp only [icon, put_at ht, ht, Option.map_some, tcells, hf, List.length_cons]
  ·by_cases h3 : ∃ q, y = .met i q
   ·obtain ⟨q, rfl⟩ := h3
    simp only [icon, put_at ht, ht, Option.bind_some, hf]
    rw [← set_top (f := f) (f' := f')]
    by_cases hq : q = r.length
    ·subst hq
     rw [List.getElem?_set_self (by simp), get_top]
     simp only [Option.map_some, hm]
    ·rw [List.getElem?_set_ne (Ne.symm hq)]
   ·by_cases h4 : y = .regs i
    ·subst h4; simp only [icon, put_at ht, ht, Option.map_some]
    ·exact icon_put ht _ h2 hy (fun q e => h3 ⟨q, e⟩) h4

/-- The part whose cells tell where a part lies. -/
def IR.up : IR → Option IR
 | .mach => none
 | .tasks => some .mach
 | .task _ => some .tasks
 | .regs i => some (.task i)
 | .frames i => some (.task i)
 | .met i _ => some (.frames i)
 | .recs => some .mach
 | .states => some .mach
 | .rings => some .mach
 | .ring _ => some .rings
 | .std => some .mach
 | .stdr _ => some .std

theorem icon_eqs {L1 : Lay IR} {K : IR → Prop} (hag : ∀ y, ¬ K y → L1.id y = L.id y ∧ L1.on y = L.on y ∧ L1.cap y = L.cap y) {x : IR} (hx : ∀ y, K y → y.up ≠ some x) : icon E L1 S x = icon E L S x := by
 have hsc : ∀ y, ¬ K y → ∀ n, L1.sc y n = L.sc y n := fun y hy n => sc_eq (hag y hy).1 (hag y hy).2.1 (hag y hy).2.2 n
 have hid : ∀ y, ¬ K y → L1.id y = L.id y := fun y hy => (hag y hy).1
 have ne : ∀ y, y.up = some x → ¬ K y := fun y hy hk => hx y hk hy
 cases x with
 | mach => simp only [icon, mcells, hsc .tasks (ne .tasks rfl), hsc .recs (ne .recs rfl), hsc .states (ne .states rfl), hsc .rings (ne .rings rfl), hsc .std (ne .std rfl)]
 | tasks =>
  simp only [icon]
  rw [cat_congr (g := trow L1) (g' := trow L) fun j g hj => by simp only [trow]; rw [hid (.task (0 + j)) (ne (.task (0 + j)) rfl)]]
 | task j =>
  simp only [icon]
  congr 1
  funext t
  simp only [tcells]
  rw [hsc (.frames j) (ne (.frames j) rfl), hsc (.regs j) (ne (.regs j) rfl)]
 | frames j =>
  simp only [icon]
  congr 1
  funext t
  rw [cat_congr (g := frow L1 j) (g' := frow L j) fun q g hq => by simp only [frow]; rw [hsc (.met j (0 + q)) (ne (.met j (0 + q)) rfl)]]
 | rings =>
  simp only [icon]
  rw [cat_congr (g := ringrow L1) (g' := ringrow L) fun j g hj => by simp only [ringrow]; rw [hsc (.ring (0 + j)) (ne (.ring (0 + j)) rfl)]]
 | std =>
  simp only [icon]
  rw [cat_congr (g := viewrow L1) (g' := viewrow L) fun j g hj => by simp only [viewrow]; rw [hsc (.stdr (0 + j)) (ne (.stdr (0 + j)) rfl)]]
 | _ => rfl

/-- One more row of a part, and the store of its slice behind it; some parts (that are empty) are there no more. -/
theorem Rep.appAt (h : Rep E L S μ) {S' : PM} {r rp : IR} {sz szp bytes n o : Nat} {cs csp new : List Cell} (p : IR → Bool) (hc : icon E L S r = some (sz, cs)) (hz : 0 < sz) (hlen : cs.length = n * sz) (hnew : new.length = sz) (hb : bytes ≤ 1000) (hn : n < roomy)
  (hp : icon E L S rp = some (szp, csp)) (hpn : szp = 0 ∨ csp ≠ []) (hpo : o + 1 ≤ csp.length) (hne : rp ≠ r) (hpr : p r = false) (hprp : p rp = false) (hpm : p .mach = false) (hpt : ∀ i, p (.task i) = false) (hrm : r ≠ .mach) (hrt : ∀ i, r ≠ .task i)
  (hS : ∀ L' : Lay IR, (∀ y, y ≠ r → p y = false → L'.id y = L.id y ∧ L'.on y = L.on y ∧ L'.cap y = L.cap y) → (∀ y, p y = true → L'.on y = false) →
   icon E L' S' r = some (sz, cs ++ new) ∧ icon E L' S' rp = some (szp, wr csp o [L'.sc r (n + 1)]) ∧ ∀ y, y ≠ r → y ≠ rp → (p y = true → ∀ s c, icon E L' S' y = some (s, c) → 0 < s ∧ c = []) ∧ (p y = false → icon E L' S' y = icon E L S y))
  (hg : ∀ t ∈ S'.tasks, t.regs.length = 4) :
  ∃ L' μ1 μ2, aapp sz bytes (.c (L.sc r n)) (.c (.slc (some (μ.next, 0)) 1 1)) (μ.new new sz) = some (.c (L'.sc r (n + 1)), μ1) ∧ μ1.st (L.id rp) o [L'.sc r (n + 1)] = some μ2 ∧ Rep E L' S' μ2 ∧ Stay S L L' ∧ Keep L μ L' μ2 ∧ ∀ y, y ≠ r → p y = false → L'.id y = L.id y ∧ L'.on y = L.on y ∧ L'.cap y = L.cap y := by
 unfold roomy at hn
 have hbm : (n + 1) * bytes ≤ most := by
  have : (n + 1) * bytes ≤ 16777216 * 1000 := Nat.mul_le_mul (by omega) hb
  unfold most; omega
 obtain ⟨L1, μ1, ea, hL1, hs1, hoth, hob, hon, _, hidr⟩ := (h.has.tmp (cs := new) (sz := sz)).app (Nat.le_succ_of_le h.lo) (r := r) (bytes := bytes) (n := n) (k := 1) (c := 1)
  (b := some (μ.next, 0)) (new := new) hc hz hlen (SlcVal.fresh (by rw [hnew]; omega)) ⟨hbm, by unfold most; omega⟩ (.inl (by omega))
 obtain ⟨μ2, es, hL2, hs2, hn2, hob2⟩ := hL1.st (r := rp) (sz := szp) (cs := csp) (o := o) (new := [L1.sc r (n + 1)]) (by simp only [Con.upd]; rw [if_neg hne]; exact hp) hpn hpo
 rw [(hoth rp hne).1] at es
 generalize hLd : L1.off p = L2
 have e2 : ∀ y, L2.id y = L1.id y ∧ L2.cap y = L1.cap y ∧ (p y = false → L2.on y = L1.on y) ∧ (p y = true → L2.on y = false) := by
  intro y; subst hLd
  exact ⟨rfl, rfl, fun hy => by simp [Lay.off, hy], fun hy => by simp [Lay.off, hy]⟩
 have ag : ∀ y, y ≠ r → p y = false → L2.id y = L.id y ∧ L2.on y = L.on y ∧ L2.cap y = L.cap y := fun y hy hpy =>
  ⟨(e2 y).1.trans (hoth y hy).1, ((e2 y).2.2.1 hpy).trans (hoth y hy).2.1, (e2 y).2.1.trans (hoth y hy).2.2⟩
 have hsr : ∀ n, L2.sc r n = L1.sc r n := fun n => sc_eq (e2 r).1 ((e2 r).2.2.1 hpr) (e2 r).2.1 n
 obtain ⟨q1, q2, q3⟩ := hS L2 ag fun y hy => (e2 y).2.2.2 hy
 refine ⟨L2, μ1, μ2, by rw [hsr]; exact ea, by rw [hsr]; exact es, ⟨?_, (h.same.new h.lo).trans (hs1.trans hs2), h.low, (ag .mach (Ne.symm hrm) hpm).1.trans h.m, h.plan, hg⟩,
  ⟨(ag .mach (Ne.symm hrm) hpm).1, fun i _ => (ag (.task i) (Ne.symm (hrt i)) (hpt i)).1⟩, ?_, ag⟩
 ·subst hLd
  refine hL2.off fun y s c hy => ?_
  by_cases hyr : y = r
  ·subst hyr
   refine ⟨fun hh => (by rw [hpr] at hh; cases hh), fun _ => ?_⟩
   rw [q1] at hy
   simp only [Con.upd]
   rw [if_neg (Ne.symm hne), if_pos trivial]
   exact hy
  ·by_cases hyp : y = rp
   ·subst hyp
    refine ⟨fun hh => (by rw [hprp] at hh; cases hh), fun _ => ?_⟩
    rw [q2, hsr] at hy
    simp only [Con.upd]
    rw [if_pos trivial]
    exact hy
   ·refine ⟨fun hh => (q3 y hyr hyp).1 hh s c hy, fun hh => ?_⟩
    simp only [Con.upd]
    rw [if_neg hyp, if_neg hyr, ← (q3 y hyr hyp).2 hh]
    exact hy
 ·have honp : L1.on rp = true := (hoth rp hne).2.1.trans (h.has.on hp hpn)
  subst hLd
  exact ((Keep.tmp.trans (Keep.app hs1.2 hoth hob hidr)).trans (Keep.st honp hn2 hob2)).trans Keep.off

def nfr (f : PFr) : List Cell := [.int .i64 f.hd, .int .i64 f.op, .int .i64 f.pc, .int .i64 f.fin, .slc none 0 0, .bool f.leaving, .int .i64 f.way, .int .i64 f.num]

theorem Rep.push (h : Rep E L S μ) {i : Nat} {t : PTk} {f : PFr} (ht : S.tasks[i]? = some t) (hmet : f.met = []) (hlen : t.frames.length < roomy) :
  ∃ L' μ1 μ2, aapp 8 80 (.c (L.sc (.frames i) t.frames.length)) (.c (.slc (some (μ.next, 0)) 1 1)) (μ.new (nfr f) 8) = some (.c (L'.sc (.frames i) (t.frames.length + 1)), μ1) ∧
   μ1.st (L.id (.task i)) 10 [L'.sc (.frames i) (t.frames.length + 1)] = some μ2 ∧ Rep E L' (S.put i { t with frames := f :: t.frames }) μ2 ∧ Stay S L L' ∧ Keep L μ L' μ2 := by
 refine Exists.elim (h.appAt (S' := S.put i { t with frames := f :: t.frames }) (new := nfr f) (bytes := 80) (o := 10) (sz := 8) (n := t.frames.length) (r := .frames i) (rp := .task i) (szp := 0) (csp := tcells L i t) (cs := cat (frow L i) 0 t.frames.reverse) (fun y => decide (y = .met i t.frames.length)) (by simp only [icon, ht, Option.map_some]) (by omega) (by rw [cat_length (frow_len L i)]; simp) rfl (by omega) hlen
  (by simp only [icon, ht, Option.map_some]) (.inl rfl) (by simp [tcells]) (by intro hh; cases hh) (by simp) (by simp) (by simp) (by simp) (by intro hh; cases hh) (by intro j hh; cases hh) (fun L' ag hoff => ⟨?_, ?_, fun y hy hyp => ⟨fun hpy s c hc => ?_, fun hpy => ?_⟩⟩)
  (put_regs h (h.regs t (List.mem_of_getElem? ht)))) fun L' ⟨μ1, μ2, e1, e2, e3, e4, e5, _⟩ => ⟨L', μ1, μ2, e1, e2, e3, e4, e5⟩
 ·simp only [icon, put_at ht, Option.map_some, List.reverse_cons, cat_append, cat, List.append_nil, Nat.zero_add, List.length_reverse]
  congr 3
  ·exact cat_congr fun j g hj => by
    have hjl : j < t.frames.length := by have := (List.getElem?_eq_some_iff.1 hj).1; simpa using this
    have a := ag (.met i (0 + j)) (by intro hh; cases hh) (by simp; omega)
    simp only [frow]; rw [sc_eq a.1 a.2.1 a.2.2]
  ·have : L'.sc (.met i t.frames.length) 0 = .slc none 0 0 := by unfold Lay.sc; rw [hoff _ (by simp)]; rfl
   simp only [frow, nfr, hmet, List.length_nil, this]
 ·have a := ag (.regs i) (by intro hh; cases hh) (by simp)
  simp only [icon, put_at ht, Option.map_some, tcells, wr, List.set_cons_succ, List.set_cons_zero, List.length_cons, sc_eq a.1 a.2.1 a.2.2]
 ·have hpy := of_decide_eq_true hpy
  subst hpy
  simp only [icon, put_at ht, Option.bind_some, get_top, Option.map_some, hmet, Option.some.injEq, Prod.mk.injEq] at hc
  exact ⟨by omega, hc.2.symm⟩
 ·have hne : y ≠ .met i t.frames.length := of_decide_eq_false hpy
  have e1 : icon E L' S y = icon E L S y := icon_eqs (K := fun y => y = .frames i ∨ y = .met i t.frames.length) (fun z hz => ag z (fun e => hz (.inl e)) (by simp; exact fun e => hz (.inr e)))
   (by rintro z (rfl | rfl) <;> simp only [IR.up, ne_eq, Option.some.injEq] <;> intro hh <;> first | exact hyp hh.symm | exact hy hh.symm)
  rw [← e1]
  by_cases h3 : ∃ q, y = .met i q
  ·obtain ⟨q, rfl⟩ := h3
   have hq : q ≠ t.frames.length := fun e => hne (by rw [e])
   simp only [icon, put_at ht, ht, Option.bind_some, List.reverse_cons]
   by_cases hlt : q < t.frames.length
   ·rw [List.getElem?_append_left (by simpa using hlt)]
   ·rw [List.getElem?_eq_none (by simp; omega), List.getElem?_eq_none (by simp; omega)]
  ·by_cases h4 : y = .regs i
   ·subst h4; simp only [icon, put_at ht, ht, Option.map_some]
   ·exact icon_put ht _ hyp hy (fun q e => h3 ⟨q, e⟩) h4

theorem Rep.pushRec (h : Rep E L S μ) (x : PRec) (hlen : S.recs.length < roomy) :
  ∃ L' μ1 μ2, aapp 4 32 (.c (L.sc .recs S.recs.length)) (.c (.slc (some (μ.next, 0)) 1 1)) (μ.new (recrow 0 x) 4) = some (.c (L'.sc .recs (S.recs.length + 1)), μ1) ∧
   μ1.st E.m 6 [L'.sc .recs (S.recs.length + 1)] = some μ2 ∧ Rep E L' { S with recs := S.recs ++ [x] } μ2 ∧ Stay S L L' ∧ Keep L μ L' μ2 ∧ ∀ i n, L'.sc (.ring i) n = L.sc (.ring i) n := by
 rw [← h.m]
 refine Exists.elim (h.appAt (S' := { S with recs := S.recs ++ [x] }) (new := recrow 0 x) (bytes := 32) (o := 6) (sz := 4) (n := S.recs.length) (r := .recs) (rp := .mach) (szp := 0) (csp := mcells E L S) (cs := cat recrow 0 S.recs) (fun y => false) rfl (by omega) (by rw [cat_length recrow_len]) rfl (by omega) hlen
  rfl (.inl rfl) (by simp [mcells]) (by intro hh; cases hh) rfl rfl rfl (fun _ => rfl) (by intro hh; cases hh) (by intro j hh; cases hh) (fun L' ag hoff => ⟨?_, ?_, fun y hy hyp => ⟨fun hpy => (by cases hpy), fun _ => ?_⟩⟩) h.regs) fun L' ⟨μ1, μ2, e1, e2, e3, e4, e5, ag'⟩ => ⟨L', μ1, μ2, e1, e2, e3, e4, e5, fun i n => sc_eq (ag' (.ring i) (by intro hh; cases hh) rfl).1 (ag' (.ring i) (by intro hh; cases hh) rfl).2.1 (ag' (.ring i) (by intro hh; cases hh) rfl).2.2 n⟩
 ·simp only [icon, cat_append, cat, List.append_nil]; rfl
 ·have hsc : ∀ y, y ≠ .recs → ∀ n, L'.sc y n = L.sc y n := fun y hy n => sc_eq (ag y hy rfl).1 (ag y hy rfl).2.1 (ag y hy rfl).2.2 n
  simp only [icon, mcells, wr, List.set_cons_succ, List.set_cons_zero, hsc .tasks (by intro hh; cases hh), hsc .states (by intro hh; cases hh), hsc .rings (by intro hh; cases hh), hsc .std (by intro hh; cases hh), List.length_append, List.length_cons, List.length_nil, Nat.zero_add]
 ·rw [← icon_eqs (E := E) (L := L) (S := S) (L1 := L') (K := fun y => y = .recs) (fun z hz => ag z hz rfl) (by rintro z rfl; simp only [IR.up, ne_eq, Option.some.injEq]; exact Ne.symm hyp)]
  cases y <;> first | rfl | exact absurd rfl hy | exact absurd rfl hyp

theorem Rep.pushState (h : Rep E L S μ) (x : Int) (hlen : S.states.length < roomy) :
  ∃ L' μ1 μ2, aapp 1 8 (.c (L.sc .states S.states.length)) (.c (.slc (some (μ.next, 0)) 1 1)) (μ.new [.int .i64 x] 1) = some (.c (L'.sc .states (S.states.length + 1)), μ1) ∧
   μ1.st E.m 9 [L'.sc .states (S.states.length + 1)] = some μ2 ∧ Rep E L' { S with states := S.states ++ [x] } μ2 ∧ Stay S L L' ∧ Keep L μ L' μ2 ∧ ∀ n, L'.sc .tasks n = L.sc .tasks n := by
 rw [← h.m]
 refine Exists.elim (h.appAt (S' := { S with states := S.states ++ [x] }) (new := [.int .i64 x]) (bytes := 8) (o := 9) (sz := 1) (n := S.states.length) (r := .states) (rp := .mach) (szp := 0) (csp := mcells E L S) (cs := cat irow 0 S.states) (fun y => false) rfl (by omega) (by rw [cat_length irow_len]) rfl (by omega) hlen
  rfl (.inl rfl) (by simp [mcells]) (by intro hh; cases hh) rfl rfl rfl (fun _ => rfl) (by intro hh; cases hh) (by intro j hh; cases hh) (fun L' ag hoff => ⟨?_, ?_, fun y hy hyp => ⟨fun hpy => (by cases hpy), fun _ => ?_⟩⟩) h.regs) fun L' ⟨μ1, μ2, e1, e2, e3, e4, e5, ag'⟩ => ⟨L', μ1, μ2, e1, e2, e3, e4, e5, fun n => sc_eq (ag' .tasks (by intro hh; cases hh) rfl).1 (ag' .tasks (by intro hh; cases hh) rfl).2.1 (ag' .tasks (by intro hh; cases hh) rfl).2.2 n⟩
 ·simp only [icon, cat_append, cat, List.append_nil, irow]
 ·have hsc : ∀ y, y ≠ .states → ∀ n, L'.sc y n = L.sc y n := fun y hy n => sc_eq (ag y hy rfl).1 (ag y hy rfl).2.1 (ag y hy rfl).2.2 n
  simp only [icon, mcells, wr, List.set_cons_succ, List.set_cons_zero, hsc .tasks (by intro hh; cases hh), hsc .recs (by intro hh; cases hh), hsc .rings (by intro hh; cases hh), hsc .std (by intro hh; cases hh), List.length_append, List.length_cons, List.length_nil, Nat.zero_add]
 ·rw [← icon_eqs (E := E) (L := L) (S := S) (L1 := L') (K := fun y => y = .states) (fun z hz => ag z hz rfl) (by rintro z rfl; simp only [IR.up, ne_eq, Option.some.injEq]; exact Ne.symm hyp)]
  cases y <;> first | rfl | exact absurd rfl hy | exact absurd rfl hyp

theorem Rep.pushMet (h : Rep E L S μ) {i : Nat} {t : PTk} {f : PFr} {r : List PFr} (ht : S.tasks[i]? = some t) (hf : t.frames = f :: r) (x : Int) (hlen : f.met.length < roomy) :
  ∃ L' μ1 μ2, aapp 1 8 (.c (L.sc (.met i r.length) f.met.length)) (.c (.slc (some (μ.next, 0)) 1 1)) (μ.new [.int .i64 x] 1) = some (.c (L'.sc (.met i r.length) (f.met.length + 1)), μ1) ∧
   μ1.st (L.id (.frames i)) (r.length * 8 + 4) [L'.sc (.met i r.length) (f.met.length + 1)] = some μ2 ∧ Rep E L' (S.put i { t with frames := { f with met := x :: f.met } :: r }) μ2 ∧ Stay S L L' ∧ Keep L μ L' μ2 ∧
   L'.id (.frames i) = L.id (.frames i) := by
 obtain ⟨hc, hlenf, hne⟩ := h.framesc ht hf
 refine Exists.elim (h.appAt (S' := S.put i { t with frames := { f with met := x :: f.met } :: r }) (new := [.int .i64 x]) (bytes := 8) (o := r.length * 8 + 4) (r := .met i r.length) (rp := .frames i) (szp := 8)
  (csp := cat (frow L i) 0 (f :: r).reverse) (cs := cat irow 0 f.met.reverse) (sz := 1) (n := f.met.length) (fun y => false) (by simp only [icon, ht, Option.bind_some, hf, get_top, Option.map_some]) (by omega) (by rw [cat_length irow_len]; simp) rfl (by omega) hlen
  hc (.inr hne) (by rw [hlenf]; omega) (by intro hh; cases hh) rfl rfl rfl (fun _ => rfl) (by intro hh; cases hh) (by intro j hh; cases hh) (fun L' ag hoff => ⟨?_, ?_, fun y hy hyp => ⟨fun hpy => (by cases hpy), fun _ => ?_⟩⟩)
  (put_regs h (h.regs t (List.mem_of_getElem? ht)))) fun L' ⟨μ1, μ2, e1, e2, e3, e4, e5, ag'⟩ => ⟨L', μ1, μ2, e1, e2, e3, e4, e5, (ag' (.frames i) (by intro hh; cases hh) rfl).1⟩
 ·simp only [icon, put_at ht, Option.bind_some, get_top, Option.map_some]
  simp only [List.reverse_cons, cat_append, cat, List.append_nil, irow]
 ·simp only [icon, put_at ht, Option.map_some]
  have hsc : ∀ y, y ≠ .met i r.length → ∀ n, L'.sc y n = L.sc y n := fun y hy n => sc_eq (ag y hy rfl).1 (ag y hy rfl).2.1 (ag y hy rfl).2.2 n
  rw [cat_wr' (frow_len L i) (g' := frow L' i) (a' := { f with met := x :: f.met }) get_top (by simp) (by rw [Nat.zero_add]; rfl) (fun q g hq hg => by
   simp only [frow]; rw [hsc (.met i (0 + q)) (by intro hh; injection hh; omega)]), set_top]
 ·have e1 : icon E L' S y = icon E L S y := icon_eqs (K := fun y => y = .met i r.length) (fun z hz => ag z hz rfl) (by rintro z rfl; simp only [IR.up, ne_eq, Option.some.injEq]; exact Ne.symm hyp)
  rw [← e1]
  by_cases h3 : ∃ q, y = .met i q
  ·obtain ⟨q, rfl⟩ := h3
   have hq : q ≠ r.length := fun e => hy (by rw [e])
   simp only [icon, put_at ht, ht, Option.bind_some, hf, List.reverse_cons]
   by_cases hlt : q < r.length
   ·rw [List.getElem?_append_left (by simpa using hlt), List.getElem?_append_left (by simpa using hlt)]
   ·rw [List.getElem?_eq_none (by simp; omega), List.getElem?_eq_none (by simp; omega)]
  ·by_cases h4 : y = .regs i
   ·subst h4; simp only [icon, put_at ht, ht, Option.map_some]
   ·by_cases h5 : y = .task i
    ·subst h5; simp only [icon, put_at ht, ht, Option.map_some, tcells, hf, List.length_cons]
    ·exact icon_put ht _ h5 hyp (fun q e => h3 ⟨q, e⟩) h4

/-- A part is cut at its end, and its slice stored. -/
theorem Rep.cutAt (h : Rep E L S μ) {S' : PM} {r rp : IR} {sz szp o n : Nat} {cs cut csp : List Cell} (hc : icon E L S r = some (sz, cs ++ cut)) (hz : 0 < sz) (hp : icon E L S rp = some (szp, csp)) (hpn : szp = 0 ∨ csp ≠ []) (hpo : o + 1 ≤ csp.length) (hne : rp ≠ r)
  (h1 : icon E L S' r = some (sz, cs)) (h2 : icon E L S' rp = some (szp, wr csp o [L.sc r n])) (h3 : ∀ y, y ≠ r → y ≠ rp → icon E L S' y = icon E L S y ∨ icon E L S' y = none) (hg : ∀ t ∈ S'.tasks, t.regs.length = 4) :
  ∃ μ', μ.st (L.id rp) o [L.sc r n] = some μ' ∧ Rep E L S' μ' ∧ Keep L μ L μ' := by
 obtain ⟨μ', e, k1, k2, k3, k4⟩ := (h.has.cut (r := r) hc hz).st (r := rp) (sz := szp) (cs := csp) (o := o) (new := [L.sc r n]) (by simp only [Con.upd]; rw [if_neg hne]; exact hp) hpn hpo
 refine ⟨μ', e, ⟨k1.weaken fun y x hx => ?_, h.same.trans k2, h.low, h.m, h.plan, hg⟩, Keep.st (h.has.on hp hpn) k3 k4⟩
 simp only [Con.upd]
 by_cases hy : y = rp
 ·subst hy; rw [if_pos rfl, ← h2, hx]
 ·rw [if_neg hy]
  by_cases hyr : y = r
  ·subst hyr; rw [if_pos rfl, ← h1, hx]
  ·rw [if_neg hyr]
   rcases h3 y hyr hy with hh | hh
   ·rw [← hh, hx]
   ·rw [hh] at hx; cases hx

theorem Rep.pop (h : Rep E L S μ) {i : Nat} {t : PTk} {f : PFr} {r : List PFr} (ht : S.tasks[i]? = some t) (hf : t.frames = f :: r) :
  ∃ μ', μ.st (L.id (.task i)) 10 [L.sc (.frames i) r.length] = some μ' ∧ Rep E L (S.put i { t with frames := r }) μ' ∧ Keep L μ L μ' := by
 refine h.cutAt (r := .frames i) (rp := .task i) (szp := 0) (csp := tcells L i t) (sz := 8) (cs := cat (frow L i) 0 r.reverse) (cut := frow L i r.length f) (by simp only [icon, ht, Option.map_some, hf, List.reverse_cons, cat_append, cat, List.append_nil, Nat.zero_add, List.length_reverse])
  (by omega) (by simp only [icon, ht, Option.map_some]) (.inl rfl) (by simp [tcells]) (by intro hh; cases hh) (by simp only [icon, put_at ht, Option.map_some]) (by simp only [icon, put_at ht, Option.map_some, tcells, wr, List.set_cons_succ, List.set_cons_zero]) (fun y hy hyp => ?_)
  (put_regs h (h.regs t (List.mem_of_getElem? ht)))
 by_cases h3 : ∃ q, y = .met i q
 ·obtain ⟨q, rfl⟩ := h3
  simp only [icon, put_at ht, ht, Option.bind_some, hf, List.reverse_cons]
  by_cases hlt : q < r.length
  ·rw [List.getElem?_append_left (by simpa using hlt)]; exact .inl rfl
  ·rw [List.getElem?_eq_none (l := r.reverse) (by simp; omega)]; exact .inr rfl
 ·by_cases h4 : y = .regs i
  ·subst h4; exact .inl (by simp only [icon, put_at ht, ht, Option.map_some])
  ·exact .inl (icon_put ht _ hyp hy (fun q e => h3 ⟨q, e⟩) h4)

theorem Rep.popMet (h : Rep E L S μ) {i : Nat} {t : PTk} {f : PFr} {r : List PFr} {x : Int} {m : List Int} (ht : S.tasks[i]? = some t) (hf : t.frames = f :: r) (hm : f.met = x :: m) :
  ∃ μ', μ.st (L.id (.frames i)) (r.length * 8 + 4) [L.sc (.met i r.length) m.length] = some μ' ∧ Rep E L (S.put i { t with frames := { f with met := m } :: r }) μ' ∧ Keep L μ L μ' := by
 obtain ⟨hc, hlenf, hne⟩ := h.framesc ht hf
 refine h.cutAt (r := .met i r.length) (rp := .frames i) (szp := 8) (csp := cat (frow L i) 0 (f :: r).reverse) (sz := 1) (cs := cat irow 0 m.reverse) (cut := [.int .i64 x])
  (by simp only [icon, ht, Option.bind_some, hf, get_top, Option.map_some]; simp only [hm, List.reverse_cons, cat_append, cat, irow, List.append_nil]) (by omega) hc (.inr hne) (by rw [hlenf]; omega) (by intro hh; cases hh)
  (by simp only [icon, put_at ht, Option.bind_some, get_top, Option.map_some]) ?_ (fun y hy hyp => .inl ?_) (put_regs h (h.regs t (List.mem_of_getElem? ht)))
 ·simp only [icon, put_at ht, Option.map_some]
  rw [cat_wr (frow_len L i) (a' := { f with met := m }) get_top (by simp) (by rw [Nat.zero_add]; rfl), set_top]
 ·by_cases h3 : ∃ q, y = .met i q
  ·obtain ⟨q, rfl⟩ := h3
   have hq : q ≠ r.length := fun e => hy (by rw [e])
   simp only [icon, put_at ht, ht, Option.bind_some, hf, List.reverse_cons]
   by_cases hlt : q < r.length
   ·rw [List.getElem?_append_left (by simpa using hlt), List.getElem?_append_left (by simpa using hlt)]
   ·rw [List.getElem?_eq_none (by simp; omega), List.getElem?_eq_none (by simp; omega)]
  ·by_cases h4 : y = .regs i
   ·subst h4; simp only [icon, put_at ht, ht, Option.map_some]
   ·by_cases h5 : y = .task i
    ·subst h5; simp only [icon, put_at ht, ht, Option.map_some, tcells, hf, List.length_cons]
    ·exact icon_put ht _ h5 hyp (fun q e => h3 ⟨q, e⟩) h4
end
end Go.Proofs.Ytibmnlijoeppaaa.X

/-
 How the program's machine lies in memory.
-/
import Derived.Test.YtibmnlijoeppaaaIM
namespace Go.Proofs.Ytibmnlijoeppaaa
set_option linter.unusedSimpArgs false
set_option linter.unusedVariables false

inductive IR where
 | mach
 | tasks
 | task (i : Nat)
 | frames (i : Nat)
 | met (i j : Nat)
 | recs
 | states
 | rings
 | ring (k : Nat)
 | hn
 | hk
 | hs
 | std
 | stdr (i : Nat)
 deriving DecidableEq

structure IEnv where
 lo : Nat
 out : Mem
 m : Nat
 pl : Cell
 plan : PPlan
 pend : Option (List Int)

def irow (_ : Nat) (n : Int) : List Cell := [.int .i64 n]
def recrow (_ : Nat) (r : PRec) : List Cell := [.int .i64 r.kind, .int .i64 r.task, .int .i64 r.how, .int .i64 r.num]
def frow (L : Lay IR) (i j : Nat) (f : PFr) : List Cell :=
 [.int .i64 f.op, .int .i64 f.hd, .int .i64 f.pc, .int .i64 f.fin, L.sc (.met i j) f.met.length, .bool f.leaving, .int .i64 f.way, .int .i64 f.num]
def tcells (L : Lay IR) (i : Nat) (t : PTk) : List Cell :=
 [.int .i64 t.body, .int .i64 t.state, .int .i64 (t.regs.getD 0 0), .int .i64 (t.regs.getD 1 0), .int .i64 (t.regs.getD 2 0), .int .i64 (t.regs.getD 3 0), .int .i64 t.waiter,
 .int .i64 t.ask.op, .int .i64 t.ask.a, .int .i64 t.ask.b, .int .i64 t.ask.n, .int .i64 t.ask.size, L.sc (.frames i) t.frames.length, .bool t.given, .bool t.drops, .int .i64 t.drop, .int .i64 t.kept, .int .i64 t.begun]
def trow (L : Lay IR) (i : Nat) (_ : PTk) : List Cell := [.ptr (some (L.id (.task i), 0))]
def ringrow (L : Lay IR) (k : Nat) (r : PRing) : List Cell := [.int .i64 r.pos, L.sc (.ring k) r.tasks.length]
def viewrow (L : Lay IR) (i : Nat) (v : PView) : List Cell :=
 [.int .i64 v.body, .int .i64 v.state, L.sc (.stdr i) v.regs.length, .int .i64 v.waiter, .int .i64 v.blocks, .int .i64 v.kept, .int .i64 v.begun]

def hookc (L : Lay IR) (h : Option PHk) : Cell := match h with | none => .nilfn | some _ => .fn 71 [(L.id .hn, 0), (L.id .hk, 0), (L.id .hs, 0)]

def mcells (E : IEnv) (L : Lay IR) (S : PM) : List Cell :=
 [E.pl, .int .i64 S.left, .int .i64 S.used, L.sc .tasks S.tasks.length, .int .i64 S.run, .int .i64 S.code, L.sc .recs S.recs.length, .int .i64 S.num, .int .i64 S.ticks, L.sc .states S.states.length,
 .bool S.over, hookc L S.hook, L.sc .rings S.rings.length]

def icon (E : IEnv) (L : Lay IR) (S : PM) : Con IR
 | .mach => some (0, mcells E L S)
 | .tasks => some (1, cat (trow L) 0 S.tasks)
 | .task i => (S.tasks[i]?).map fun t => (0, tcells L i t)
 | .frames i => (S.tasks[i]?).map fun t => (8, cat (frow L i) 0 t.frames.reverse)
 | .met i j => (S.tasks[i]?).bind fun t => (t.frames.reverse[j]?).map fun f => (1, cat irow 0 f.met.reverse)
 | .recs => some (4, cat recrow 0 S.recs)
 | .states => some (1, cat irow 0 S.states)
 | .rings => some (2, cat (ringrow L) 0 S.rings)
 | .ring k => if k = S.rings.length then E.pend.map fun l => (1, cat irow 0 l) else (S.rings[k]?).map fun r => (1, cat irow 0 r.tasks)
 | .hn => S.hook.map fun h => (0, [.int .i64 h.n])
 | .hk => S.hook.map fun h => (0, [.int .i64 h.k])
 | .hs => S.hook.map fun h => (0, [.bool h.stand.ok, .int .i64 h.stand.running, L.sc .std h.stand.tasks.length])
 | .std => S.hook.map fun h => (7, cat (viewrow L) 0 h.stand.tasks)
 | .stdr i => S.hook.bind fun h => (h.stand.tasks[i]?).map fun v => (1, cat irow 0 v.regs)

structure Rep (E : IEnv) (L : Lay IR) (S : PM) (μ : Mem) : Prop where
 has : Has L (icon E L S) E.lo μ
 same : Same E.lo E.out μ
 low : E.lo ≤ E.out.next
 m : L.id .mach = E.m
 plan : PlanR E.lo E.out E.pl E.plan
 regs : ∀ t ∈ S.tasks, t.regs.length = 4

theorem Rep.lo {E : IEnv} {L : Lay IR} {S : PM} {μ : Mem} (h : Rep E L S μ) : E.lo ≤ μ.next := Nat.le_trans h.low h.same.2

/-- Where the machine and its tasks lie stays. -/
def Stay (S : PM) (L L' : Lay IR) : Prop := (L'.id .mach = L.id .mach ∧ L'.id .hs = L.id .hs) ∧ ∀ i, i < S.tasks.length → L'.id (.task i) = L.id (.task i)
theorem Stay.refl {S : PM} {L : Lay IR} : Stay S L L := ⟨⟨rfl, rfl⟩, fun _ _ => rfl⟩
theorem Stay.trans {S S' : PM} {L L' L'' : Lay IR} (h : Stay S L L') (h' : Stay S' L' L'') (hl : S.tasks.length ≤ S'.tasks.length) : Stay S L L'' :=
 ⟨⟨h'.1.1.trans h.1.1, h'.1.2.trans h.1.2⟩, fun i hi => (h'.2 i (by omega)).trans (h.2 i hi)⟩

/-- What is not the machine's. -/
def Free (L : Lay IR) (b : Nat) : Prop := ∀ r, L.on r = true → L.id r ≠ b
structure Keep (L : Lay IR) (μ : Mem) (L' : Lay IR) (μ' : Mem) : Prop where
 next : μ.next ≤ μ'.next
 keep : ∀ b, b < μ.next → Free L b → μ'.obj b = μ.obj b ∧ Free L' b
theorem Keep.refl {L : Lay IR} {μ : Mem} : Keep L μ L μ := ⟨Nat.le_refl _, fun _ _ hf => ⟨rfl, hf⟩⟩
theorem Keep.trans {L L' L'' : Lay IR} {μ μ' μ'' : Mem} (h : Keep L μ L' μ') (h' : Keep L' μ' L'' μ'') : Keep L μ L'' μ'' :=
 ⟨Nat.le_trans h.next h'.next, fun b hb hf => by
  obtain ⟨e, f⟩ := h.keep b hb hf
  obtain ⟨e', f'⟩ := h'.keep b (Nat.lt_of_lt_of_le hb h.next) f
  exact ⟨e'.trans e, f'⟩⟩
theorem Keep.tmp {L : Lay IR} {μ : Mem} {cs : List Cell} {sz : Nat} : Keep L μ L (μ.new cs sz) :=
 ⟨Nat.le_succ _, fun b hb hf => ⟨by simp only [Mem.new]; rw [if_neg (by omega)], hf⟩⟩
theorem Keep.st {L : Lay IR} {μ μ' : Mem} {r : IR} (hr : L.on r = true) (hn : μ'.next = μ.next) (hb : ∀ b, b ≠ L.id r → μ'.obj b = μ.obj b) : Keep L μ L μ' :=
 ⟨by rw [hn]; exact Nat.le_refl _, fun b _ hf => ⟨hb b (fun e => hf r hr e.symm), hf⟩⟩
theorem Keep.app {L L' : Lay IR} {μ μ' : Mem} {r : IR} (hn : μ.next ≤ μ'.next) (hoth : ∀ x, x ≠ r → L'.id x = L.id x ∧ L'.on x = L.on x ∧ L'.cap x = L.cap x)
  (hob : ∀ b, (L.on r = true → b ≠ L.id r) → b < μ.next → μ'.obj b = μ.obj b) (hid : L'.on r = true → (L.on r = true ∧ L'.id r = L.id r) ∨ L'.id r = μ.next) : Keep L μ L' μ' := by
 refine ⟨hn, fun b hb hf => ⟨hob b (fun hr e => hf r hr e.symm) hb, fun x hx => ?_⟩⟩
 by_cases hxr : x = r
 ·subst hxr
  rcases hid hx with ⟨h1, h2⟩ | h2
  ·rw [h2]; exact hf x h1
  ·omega
 ·rw [(hoth x hxr).1]; exact hf x (by rw [← (hoth x hxr).2.1]; exact hx)

theorem Keep.off {L : Lay IR} {μ : Mem} {p : IR → Bool} : Keep L μ (L.off p) μ :=
 ⟨Nat.le_refl _, fun b _ hf => ⟨rfl, fun r hr => by
  simp only [Lay.off] at hr ⊢
  split at hr
  ·cases hr
  ·exact hf r hr⟩⟩
theorem Keep.new {L : Lay IR} {μ : Mem} {r : IR} {cap sz : Nat} {cs : List Cell} : Keep L μ (L.put r μ.next cap) (μ.new cs sz) :=
 ⟨Nat.le_succ _, fun b hb hf => ⟨by simp only [Mem.new]; rw [if_neg (by omega)], fun x hx => by
  by_cases hxr : x = r
  ·simp only [Lay.put, hxr, if_true]; omega
  ·simp only [Lay.put, if_neg hxr] at hx ⊢; exact hf x hx⟩⟩

section
variable {E : IEnv} {L : Lay IR} {S : PM} {μ : Mem}

theorem trow_len (L : Lay IR) (i : Nat) (t : PTk) : (trow L i t).length = 1 := rfl
theorem frow_len (L : Lay IR) (i j : Nat) (f : PFr) : (frow L i j f).length = 8 := rfl
theorem recrow_len (i : Nat) (r : PRec) : (recrow i r).length = 4 := rfl
theorem irow_len (i : Nat) (n : Int) : (irow i n).length = 1 := rfl
theorem ringrow_len (L : Lay IR) (i : Nat) (r : PRing) : (ringrow L i r).length = 2 := rfl
theorem viewrow_len (L : Lay IR) (i : Nat) (v : PView) : (viewrow L i v).length = 7 := rfl

/-- A temporary variable. -/
theorem Rep.tmp (h : Rep E L S μ) {cs : List Cell} {sz : Nat} : Rep E L S (μ.new cs sz) :=
 ⟨h.has.tmp, h.same.new h.lo, h.low, h.m, h.plan, h.regs⟩

theorem Rep.next {μ' : Mem} (h : Rep E L S μ) (hs : Same μ.next μ μ') : Rep E L S μ' :=
 ⟨h.has.same hs (Nat.le_refl _), h.same.trans (hs.mono h.lo), h.low, h.m, h.plan, h.regs⟩

/-- The machine's cells. -/
theorem Rep.ldm (h : Rep E L S μ) {o : Nat} {c : Cell} (hc : (mcells E L S)[o]? = some c) : μ.ld none E.m o = some (.c c) := by
 rw [← h.m]; exact h.has.ldc (r := .mach) rfl hc

theorem Rep.ldt (h : Rep E L S μ) {i : Nat} {t : PTk} (ht : S.tasks[i]? = some t) {o : Nat} {c : Cell} (hc : (tcells L i t)[o]? = some c) : μ.ld none (L.id (.task i)) o = some (.c c) :=
 h.has.ldc (r := .task i) (sz := 0) (cs := tcells L i t) (by simp only [icon, ht, Option.map_some]) hc

/-- The machine's own cells change, nothing else. -/
theorem Rep.setMach (h : Rep E L S μ) {S' : PM} {o : Nat} {new : List Cell} (hw : wr (mcells E L S) o new = mcells E L S') (hb : o + new.length ≤ 13)
  (ht : S'.tasks = S.tasks) (hr : S'.recs = S.recs) (hst : S'.states = S.states) (hri : S'.rings = S.rings) (hh : S'.hook = S.hook) :
  ∃ μ', μ.st E.m o new = some μ' ∧ Rep E L S' μ' ∧ Keep L μ L μ' := by
 obtain ⟨μ', e, h1, h2, h3, h4⟩ := h.has.st (r := .mach) (o := o) (new := new) rfl (.inl rfl) hb
 rw [h.m] at e h4
 refine ⟨μ', e, ⟨h1.weaken fun r x hx => ?_, h.same.trans h2, h.low, h.m, h.plan, fun t hm => h.regs t (by rw [← ht]; exact hm)⟩, Keep.st (r := .mach) (h.has.on (r := .mach) rfl (.inl rfl)) h3 (by rw [h.m]; exact h4)⟩
 cases r <;> simp only [icon, Con.upd, ht, hr, hst, hri, hh] at hx ⊢ <;> first | (simpa using hx) | (rw [hw]; simpa using hx) | skip

/-- A task's own cells change, nothing else. -/
theorem Rep.setTask (h : Rep E L S μ) {i : Nat} {t t' : PTk} (ht : S.tasks[i]? = some t) {o : Nat} {new : List Cell} (hw : wr (tcells L i t) o new = tcells L i t') (hb : o + new.length ≤ 18)
  (hf : t'.frames = t.frames) (hr : t'.regs.length = 4) :
  ∃ μ', μ.st (L.id (.task i)) o new = some μ' ∧ Rep E L (S.put i t') μ' ∧ Keep L μ L μ' := by
 have hi : i < S.tasks.length := (List.getElem?_eq_some_iff.1 ht).1
 obtain ⟨μ', e, h1, h2, h3, h4⟩ := h.has.st (r := .task i) (sz := 0) (cs := tcells L i t) (o := o) (new := new) (by simp only [icon, ht, Option.map_some]) (.inl rfl) hb
 have hset : ∀ j, (S.tasks.set i t')[j]? = if j = i then some t' else S.tasks[j]? := by
  intro j
  by_cases hj : j = i
  ·subst hj; rw [if_pos rfl, List.getElem?_set_self hi]
  ·rw [if_neg hj, List.getElem?_set_ne (Ne.symm hj)]
 refine ⟨μ', e, ⟨h1.weaken fun r x hx => ?_, h.same.trans h2, h.low, h.m, h.plan, fun u hm => ?_⟩, Keep.st (r := .task i) (h.has.on (r := .task i) (sz := 0) (cs := tcells L i t) (by simp only [icon, ht, Option.map_some]) (.inl rfl)) h3 h4⟩
 ·cases r with
  | mach => simpa [icon, Con.upd, PM.put, mcells] using hx
  | tasks =>
   have : cat (trow L) 0 (S.tasks.set i t') = cat (trow L) 0 S.tasks := by
    have := cat_wr (trow_len L) (new := []) (l := S.tasks) (i := 0) (j := i) (k := 0) (a' := t') ht (by simp) rfl
    exact this.symm
   simpa [icon, Con.upd, PM.put, this] using hx
  | task j =>
   simp only [icon, PM.put, Int.toNat_natCast, hset] at hx
   simp only [Con.upd, icon]
   by_cases hj : j = i
   ·subst hj
    rw [if_pos rfl] at hx
    rw [if_pos rfl, hw]; simpa using hx
   ·rw [if_neg hj] at hx
    rw [if_neg (by intro hh; injection hh with hh; exact hj hh)]; exact hx
  | frames j =>
   simp only [icon, PM.put, Int.toNat_natCast, hset] at hx
   simp only [Con.upd, icon]
   rw [if_neg (by intro hh; cases hh)]
   by_cases hj : j = i
   ·subst hj
    rw [if_pos rfl] at hx
    rw [ht]; simpa [hf] using hx
   ·rw [if_neg hj] at hx; exact hx
  | met j k =>
   simp only [icon, PM.put, Int.toNat_natCast, hset] at hx
   simp only [Con.upd, icon]
   rw [if_neg (by intro hh; cases hh)]
   by_cases hj : j = i
   ·subst hj
    rw [if_pos rfl] at hx
    rw [ht]; simpa [hf] using hx
   ·rw [if_neg hj] at hx; exact hx
  | ring k =>
   have hx' : icon E L S (.ring k) = some x := hx
   simpa [Con.upd] using hx'
  | _ => simpa [icon, Con.upd, PM.put] using hx
 ·simp only [PM.put, Int.toNat_natCast] at hm
  rcases List.mem_or_eq_of_mem_set hm with hm | rfl
  ·exact h.regs u hm
  ·exact hr

theorem set_top {α : Type} {f f' : α} {r : List α} : (f :: r).reverse.set r.length f' = (f' :: r).reverse := by
 simp only [List.reverse_cons]
 rw [List.set_append_right _ _ (by simp)]
 simp

theorem get_top {α : Type} {f : α} {r : List α} : (f :: r).reverse[r.length]? = some f := by simp

theorem put_get {S : PM} {i : Nat} {t t' : PTk} (ht : S.tasks[i]? = some t) (j : Nat) : (S.put i t').tasks[j]? = if j = i then some t' else S.tasks[j]? := by
 have hi : i < S.tasks.length := (List.getElem?_eq_some_iff.1 ht).1
 simp only [PM.put, Int.toNat_natCast]
 by_cases hj : j = i
 ·subst hj; rw [if_pos rfl, List.getElem?_set_self hi]
 ·rw [if_neg hj, List.getElem?_set_ne (Ne.symm hj)]

theorem put_trow {L' : Lay IR} {i : Nat} {t t' : PTk} (ht : S.tasks[i]? = some t) : cat (trow L') 0 (S.put i t').tasks = cat (trow L') 0 S.tasks := by
 have := cat_wr (trow_len L') (new := []) (l := S.tasks) (i := 0) (j := i) (k := 0) (a' := t') ht (by simp) rfl
 exact this.symm

theorem put_regs (h : Rep E L S μ) {i : Nat} {t' : PTk} (hr : t'.regs.length = 4) : ∀ t ∈ (S.put i t').tasks, t.regs.length = 4 := by
 intro u hm
 simp only [PM.put, Int.toNat_natCast] at hm
 rcases List.mem_or_eq_of_mem_set hm with hm | rfl
 ·exact h.regs u hm
 ·exact hr

/-- The innermost block's own cells change. -/
theorem Rep.setTop (h : Rep E L S μ) {i : Nat} {t : PTk} {f f' : PFr} {r : List PFr} (ht : S.tasks[i]? = some t) (hf : t.frames = f :: r) {k : Nat} {new : List Cell}
  (hw : wr (frow L i r.length f) k new = frow L i r.length f') (hk : k + new.length ≤ 8) (hm : f'.met = f.met) :
  ∃ μ', μ.st (L.id (.frames i)) (r.length * 8 + k) new = some μ' ∧ Rep E L (S.put i { t with frames := f' :: r }) μ' ∧ Keep L μ L μ' := by
 have hc : icon E L S (.frames i) = some (8, cat (frow L i) 0 (f :: r).reverse) := by simp only [icon, ht, Option.map_some, hf]
 have hlen : (cat (frow L i) 0 (f :: r).reverse).length = (r.length + 1) * 8 := by rw [cat_length (frow_len L i)]; simp
 obtain ⟨μ', e, h1, h2, h3, h4⟩ := h.has.st (r := .frames i) hc (o := r.length * 8 + k) (new := new) (.inr (by intro hh; rw [hh] at hlen; simp at hlen)) (by rw [hlen]; omega)
 have hcat : wr (cat (frow L i) 0 (f :: r).reverse) (r.length * 8 + k) new = cat (frow L i) 0 (f' :: r).reverse := by
  rw [cat_wr (frow_len L i) get_top hk (by rw [Nat.zero_add]; exact hw), set_top]
 refine ⟨μ', e, ⟨h1.weaken fun x y hx => ?_, h.same.trans h2, h.low, h.m, h.plan, put_regs h (h.regs t (List.mem_of_getElem? ht))⟩, Keep.st (r := .frames i) (h.has.on hc (.inr (by intro hh; rw [hh] at hlen; simp at hlen))) h3 h4⟩
 cases x with
 | mach => simpa [icon, Con.upd, PM.put, mcells] using hx
 | tasks => simp only [icon, Con.upd, put_trow ht] at hx ⊢; simpa using hx
 | task j =>
  simp only [icon, put_get ht] at hx
  simp only [Con.upd, icon]
  rw [if_neg (by intro hh; cases hh)]
  by_cases hj : j = i
  ·subst hj
   rw [if_pos rfl] at hx
   rw [ht]; simpa [tcells, hf] using hx
  ·rw [if_neg hj] at hx; exact hx
 | frames j =>
  simp only [icon, put_get ht] at hx
  simp only [Con.upd, icon]
  by_cases hj : j = i
  ·subst hj
   rw [if_pos rfl] at hx
   rw [if_pos rfl, hcat]; simpa using hx
  ·rw [if_neg hj] at hx
   rw [if_neg (by intro hh; injection hh with hh; exact hj hh)]; exact hx
 | met j q =>
  simp only [icon, put_get ht] at hx
  simp only [Con.upd, icon]
  rw [if_neg (by intro hh; cases hh)]
  by_cases hj : j = i
  ·subst hj
   rw [if_pos rfl] at hx
   rw [ht]
   simp only [Option.bind_some, hf] at hx ⊢
   rw [← set_top (f := f) (f' := f')] at hx
   by_cases hq : q = r.length
   ·subst hq
    rw [List.getElem?_set_self (by simp)] at hx
    rw [get_top]
    simpa [hm] using hx
   ·rw [List.getElem?_set_ne (Ne.symm hq)] at hx
    exact hx
  ·rw [if_neg hj] at hx; exact hx
 | ring k =>
  have hx' : icon E L S (.ring k) = some y := hx
  simpa [Con.upd] using hx'
 | _ => simpa [icon, Con.upd, PM.put] using hx

/-- The innermost block is taken off. -/
theorem Rep.pop (h : Rep E L S μ) {i : Nat} {t : PTk} {f : PFr} {r : List PFr} (ht : S.tasks[i]? = some t) (hf : t.frames = f :: r) :
  ∃ μ', μ.st (L.id (.task i)) 12 [L.sc (.frames i) r.length] = some μ' ∧ Rep E L (S.put i { t with frames := r }) μ' ∧ Keep L μ L μ' := by
 have hc : icon E L S (.frames i) = some (8, cat (frow L i) 0 r.reverse ++ frow L i r.length f) := by
  simp only [icon, ht, Option.map_some, hf, List.reverse_cons, cat_append, cat, List.append_nil, Nat.zero_add, List.length_reverse]
 obtain ⟨μ', e, h1, h2, h3, h4⟩ := (h.has.cut (r := .frames i) hc (by omega)).st (r := .task i) (sz := 0) (cs := tcells L i t) (o := 12) (new := [L.sc (.frames i) r.length])
  (by simp only [Con.upd]; rw [if_neg (by intro hh; cases hh)]; simp only [icon, ht, Option.map_some]) (.inl rfl) (by simp [tcells])
 refine ⟨μ', e, ⟨h1.weaken fun x y hx => ?_, h.same.trans h2, h.low, h.m, h.plan, put_regs h (h.regs t (List.mem_of_getElem? ht))⟩, Keep.st (r := .task i) (h.has.on (r := .task i) (sz := 0) (cs := tcells L i t) (by simp only [icon, ht, Option.map_some]) (.inl rfl)) h3 h4⟩
 cases x with
 | mach => simpa [icon, Con.upd, PM.put, mcells] using hx
 | tasks => simp only [icon, Con.upd, put_trow ht] at hx ⊢; simpa using hx
 | task j =>
  simp only [icon, put_get ht] at hx
  simp only [Con.upd, icon]
  by_cases hj : j = i
  ·subst hj
   rw [if_pos rfl] at hx
   rw [if_pos rfl]; simpa [tcells, wr] using hx
  ·rw [if_neg hj] at hx
   rw [if_neg (by intro hh; injection hh with hh; exact hj hh), if_neg (by intro hh; cases hh)]; exact hx
 | frames j =>
  simp only [icon, put_get ht] at hx
  simp only [Con.upd, icon]
  rw [if_neg (by intro hh; cases hh)]
  by_cases hj : j = i
  ·subst hj
   rw [if_pos rfl] at hx
   rw [if_pos rfl]; simpa using hx
  ·rw [if_neg hj] at hx
   rw [if_neg (by intro hh; injection hh with hh; exact hj hh)]; exact hx
 | met j q =>
  simp only [icon, put_get ht] at hx
  simp only [Con.upd, icon]
  rw [if_neg (by intro hh; cases hh), if_neg (by intro hh; cases hh)]
  by_cases hj : j = i
  ·subst hj
   rw [if_pos rfl] at hx
   rw [ht]
   simp only [Option.bind_some, hf, List.reverse_cons] at hx ⊢
   cases hq : r.reverse[q]? with
   | none => rw [hq] at hx; cases hx
   | some g =>
    rw [hq] at hx
    rw [List.getElem?_append_left (List.getElem?_eq_some_iff.1 hq).1, hq]
    exact hx
  ·rw [if_neg hj] at hx; exact hx
 | ring k =>
  have hx' : icon E L S (.ring k) = some y := hx
  simpa [Con.upd] using hx'
 | _ => simpa [icon, Con.upd, PM.put] using hx

/-- A block's cells when it is made: it has no defers. -/
def nfr (f : PFr) : List Cell := [.int .i64 f.op, .int .i64 f.hd, .int .i64 f.pc, .int .i64 f.fin, .slc none 0 0, .bool f.leaving, .int .i64 f.way, .int .i64 f.num]

theorem sc_eq {ι : Type} {L L' : Lay ι} {r : ι} (h1 : L'.id r = L.id r) (h2 : L'.on r = L.on r) (h3 : L'.cap r = L.cap r) (n : Nat) : L'.sc r n = L.sc r n := by
 unfold Lay.sc; rw [h1, h2, h3]

/-- Contents, where the layouts agree. -/
theorem mcells_congr {L' : Lay IR} {S' : PM} (hm : ∀ y, (y = .tasks ∨ y = .recs ∨ y = .states ∨ y = .rings) → ∀ n, L'.sc y n = L.sc y n) (hi : L'.id .hn = L.id .hn ∧ L'.id .hk = L.id .hk ∧ L'.id .hs = L.id .hs)
  (h1 : S'.left = S.left) (h2 : S'.used = S.used) (h3 : S'.tasks.length = S.tasks.length) (h4 : S'.run = S.run) (h5 : S'.code = S.code) (h6 : S'.recs = S.recs) (h7 : S'.num = S.num) (h8 : S'.ticks = S.ticks)
  (h9 : S'.states = S.states) (h10 : S'.over = S.over) (h11 : S'.hook = S.hook) (h12 : S'.rings = S.rings) : mcells E L' S' = mcells E L S := by
 have hh : hookc L' S'.hook = hookc L S.hook := by
  rw [h11]; unfold hookc; rw [hi.1, hi.2.1, hi.2.2]
 simp only [mcells, h1, h2, h3, h4, h5, h6, h7, h8, h9, h10, h12, hh, hm .tasks (.inl rfl), hm .recs (.inr (.inl rfl)), hm .states (.inr (.inr (.inl rfl))), hm .rings (.inr (.inr (.inr rfl)))]

/-- A block is opened: what append and the store behind it do. -/
theorem Rep.push (h : Rep E L S μ) {i : Nat} {t : PTk} {f : PFr} (ht : S.tasks[i]? = some t) (hmet : f.met = []) (hlen : t.frames.length < roomy) :
  ∃ L' μ1 μ2, aapp 8 80 (.c (L.sc (.frames i) t.frames.length)) (.c (.slc (some (μ.next, 0)) 1 1)) (μ.new (nfr f) 8) = some (.c (L'.sc (.frames i) (t.frames.length + 1)), μ1) ∧
   μ1.st (L.id (.task i)) 12 [L'.sc (.frames i) (t.frames.length + 1)] = some μ2 ∧ Rep E L' (S.put i { t with frames := f :: t.frames }) μ2 ∧ Stay S L L' ∧ Keep L μ L' μ2 := by
 have hti := h.regs t (List.mem_of_getElem? ht)
 have hc : icon E L S (.frames i) = some (8, cat (frow L i) 0 t.frames.reverse) := by simp only [icon, ht, Option.map_some]
 have hl : (cat (frow L i) 0 t.frames.reverse).length = t.frames.length * 8 := by rw [cat_length (frow_len L i)]; simp
 unfold roomy at hlen
 obtain ⟨L1, μ1, ea, hL1, hs1, hoth, hob, hon, _, hidr⟩ := (h.has.tmp (cs := nfr f) (sz := 8)).app (Nat.le_succ_of_le h.lo) (r := .frames i) (bytes := 80) (n := t.frames.length) (k := 1) (c := 1)
  (b := some (μ.next, 0)) (new := nfr f) hc (by omega) hl (SlcVal.fresh rfl) ⟨by unfold most; omega, by unfold most; omega⟩ (.inl (by omega))
 obtain ⟨μ2, es, hL2, hs2, hn2, hob2⟩ := hL1.st (r := .task i) (sz := 0) (cs := tcells L i t) (o := 12) (new := [L1.sc (.frames i) (t.frames.length + 1)])
  (by simp only [Con.upd]; rw [if_neg (by intro hh; cases hh)]; simp only [icon, ht, Option.map_some]) (.inl rfl) (by simp [tcells])
 have hid1 : ∀ y, y ≠ .frames i → L1.id y = L.id y := fun y hy => (hoth y hy).1
 have hsc1 : ∀ y, y ≠ .frames i → ∀ n, L1.sc y n = L.sc y n := fun y hy n => sc_eq (hoth y hy).1 (hoth y hy).2.1 (hoth y hy).2.2 n
 let L2 := L1.off fun x => decide (x = .met i t.frames.length)
 have hid2 : ∀ y, L2.id y = L1.id y := fun y => rfl
 have hsc2 : ∀ y, y ≠ .met i t.frames.length → ∀ n, L2.sc y n = L1.sc y n := by
  intro y hy n
  refine sc_eq (L := L1) (L' := L2) (r := y) rfl ?_ rfl n
  show (if decide (y = .met i t.frames.length) = true then false else L1.on y) = L1.on y
  rw [if_neg (by simpa using hy)]
 have hsc : ∀ y, y ≠ .frames i → y ≠ .met i t.frames.length → ∀ n, L2.sc y n = L.sc y n := fun y h1 h2 n => (hsc2 y h2 n).trans (hsc1 y h1 n)
 have hoff : ∀ n, L2.sc (.met i t.frames.length) n = .slc none 0 0 := by
  intro n
  unfold Lay.sc
  have : L2.on (.met i t.frames.length) = false := by
   show (if decide (IR.met i t.frames.length = .met i t.frames.length) = true then false else _) = false
   simp
  rw [this]; rfl
 have hfsc : L2.sc (.frames i) (t.frames.length + 1) = L1.sc (.frames i) (t.frames.length + 1) := hsc2 _ (by intro hh; cases hh) _
 have hframes : cat (frow L2 i) 0 (f :: t.frames).reverse = cat (frow L i) 0 t.frames.reverse ++ nfr f := by
  rw [List.reverse_cons, cat_append]
  congr 1
  ·refine cat_congr fun j g hj => ?_
   have hjl : j < t.frames.length := by have := (List.getElem?_eq_some_iff.1 hj).1; simpa using this
   rw [Nat.zero_add]
   simp only [frow]
   rw [hsc (.met i j) (by intro hh; cases hh) (by intro hh; injection hh; omega)]
  ·simp only [cat, List.append_nil, Nat.zero_add, List.length_reverse, frow, nfr, hmet, hoff]
 refine ⟨L2, μ1, μ2, ?_, ?_, ⟨(hL2.off (p := fun x => decide (x = .met i t.frames.length)) fun x sz cs hx => ⟨fun hp => ?_, fun hp => ?_⟩), ?_, h.low, ?_, h.plan, put_regs h hti⟩, ?_⟩
 ·rw [hfsc]; exact ea
 ·rw [hfsc, ← hid1 (.task i) (by intro hh; cases hh)]; exact es
 ·have hp := of_decide_eq_true hp
  subst hp
  simp only [icon, put_get ht, if_true, Option.bind_some] at hx
  rw [show t.frames.length = t.frames.length from rfl, get_top] at hx
  simp only [Option.map_some, hmet, Option.some.injEq, Prod.mk.injEq] at hx
  exact ⟨by omega, hx.2.symm⟩
 ·have hne : x ≠ .met i t.frames.length := of_decide_eq_false hp
  have hid : ∀ y, y ≠ .frames i → L2.id y = L.id y := fun y hy => hid1 y hy
  change icon E L2 (S.put i { t with frames := f :: t.frames }) x = some (sz, cs) at hx
  cases x with
  | mach =>
   simp only [icon] at hx
   rw [mcells_congr (E := E) (L := L) (L' := L2) (S := S) (S' := S.put i { t with frames := f :: t.frames }) (fun y hy n => hsc y (by rcases hy with rfl | rfl | rfl | rfl <;> (intro hh; cases hh)) (by rcases hy with rfl | rfl | rfl | rfl <;> (intro hh; cases hh)) n)
    ⟨hid _ (by intro hh; cases hh), hid _ (by intro hh; cases hh), hid _ (by intro hh; cases hh)⟩ rfl rfl (by simp [PM.put]) rfl rfl rfl rfl rfl rfl rfl rfl rfl] at hx
   simpa [Con.upd, icon] using hx
  | tasks =>
   simp only [icon, put_trow ht] at hx
   have : cat (trow L2) 0 S.tasks = cat (trow L) 0 S.tasks := cat_congr fun j g hj => by simp only [trow]; rw [hid (.task (0 + j)) (by intro hh; cases hh)]
   rw [this] at hx
   simpa [Con.upd, icon] using hx
  | task j =>
   simp only [icon, put_get ht] at hx
   simp only [Con.upd]
   by_cases hj : j = i
   ·subst hj
    rw [if_pos rfl] at hx
    rw [if_pos rfl]
    simp only [Option.map_some, Option.some.injEq, Prod.mk.injEq] at hx ⊢
    refine ⟨hx.1, ?_⟩
    rw [← hx.2]
    simp only [tcells, wr, List.set_cons_succ, List.set_cons_zero, List.length_cons, hfsc]
   ·rw [if_neg hj] at hx
    rw [if_neg (by intro hh; injection hh with hh; exact hj hh), if_neg (by intro hh; cases hh)]
    simp only [icon]
    cases hu : S.tasks[j]? with
    | none => rw [hu] at hx; cases hx
    | some u =>
     rw [hu] at hx
     simp only [Option.map_some, tcells] at hx ⊢
     rw [← hx, hsc (.frames j) (by intro hh; injection hh with hh; exact hj hh) (by intro hh; cases hh)]
  | frames j =>
   simp only [icon, put_get ht] at hx
   simp only [Con.upd]
   rw [if_neg (by intro hh; cases hh)]
   by_cases hj : j = i
   ·subst hj
    rw [if_pos rfl] at hx
    rw [if_pos rfl, ← hframes]; simpa using hx
   ·rw [if_neg hj] at hx
    rw [if_neg (by intro hh; injection hh with hh; exact hj hh)]
    simp only [icon]
    cases hu : S.tasks[j]? with
    | none => rw [hu] at hx; cases hx
    | some u =>
     rw [hu] at hx
     have : cat (frow L2 j) 0 u.frames.reverse = cat (frow L j) 0 u.frames.reverse := cat_congr fun q g hq => by
      simp only [frow]; rw [hsc (.met j (0 + q)) (by intro hh; cases hh) (by intro hh; injection hh with h1 h2; exact hj h1)]
     simp only [Option.map_some, this] at hx ⊢
     exact hx
  | met j q =>
   simp only [icon, put_get ht] at hx
   simp only [Con.upd]
   rw [if_neg (by intro hh; cases hh), if_neg (by intro hh; cases hh)]
   simp only [icon]
   by_cases hj : j = i
   ·subst hj
    rw [if_pos rfl] at hx
    rw [ht]
    simp only [Option.bind_some, List.reverse_cons] at hx ⊢
    have hq : q ≠ t.frames.length := by intro hh; exact hne (by rw [hh])
    cases hg : t.frames.reverse[q]? with
    | none =>
     have : t.frames.length ≤ q := by simpa using (List.getElem?_eq_none_iff.1 hg)
     rw [List.getElem?_eq_none (by simp; omega)] at hx
     cases hx
    | some g =>
     rw [List.getElem?_append_left (List.getElem?_eq_some_iff.1 hg).1, hg] at hx
     exact hx
   ·rw [if_neg hj] at hx; exact hx
  | rings =>
   have : cat (ringrow L2) 0 S.rings = cat (ringrow L) 0 S.rings := cat_congr fun q g hq => by
    simp only [ringrow]; rw [hsc (.ring (0 + q)) (by intro hh; cases hh) (by intro hh; cases hh)]
   simp only [icon, PM.put, this] at hx
   simpa [Con.upd, icon] using hx
  | ring k =>
   have hx' : icon E L S (.ring k) = some (sz, cs) := hx
   simpa [Con.upd] using hx'
  | hs =>
   have hx' : (S.hook.map fun h => (0, [.bool h.stand.ok, .int .i64 h.stand.running, L2.sc .std h.stand.tasks.length])) = some (sz, cs) := hx
   simp only [hsc .std (by intro hh; cases hh) (by intro hh; cases hh)] at hx'
   simpa [Con.upd, icon] using hx'
  | std =>
   have hx' : (S.hook.map fun h => (7, cat (viewrow L2) 0 h.stand.tasks)) = some (sz, cs) := hx
   have hv : ∀ l : List PView, cat (viewrow L2) 0 l = cat (viewrow L) 0 l := fun l => cat_congr fun q g hq => by
    simp only [viewrow]; rw [hsc (.stdr (0 + q)) (by intro hh; cases hh) (by intro hh; cases hh)]
   simp only [hv] at hx'
   simpa [Con.upd, icon] using hx'
  | recs => simpa [icon, Con.upd, PM.put] using hx
  | states => simpa [icon, Con.upd, PM.put] using hx
  | hn => simpa [icon, Con.upd, PM.put] using hx
  | hk => simpa [icon, Con.upd, PM.put] using hx
  | stdr q => simpa [icon, Con.upd, PM.put] using hx
 ·exact (h.same.new h.lo).trans (hs1.trans hs2)
 ·exact (hid1 .mach (by intro hh; cases hh)).trans h.m
 ·have hont : L1.on (.task i) = true := (hoth (.task i) (by intro hh; cases hh)).2.1.trans (h.has.on (r := .task i) (sz := 0) (cs := tcells L i t) (by simp only [icon, ht, Option.map_some]) (.inl rfl))
  exact ⟨⟨⟨hid1 .mach (by intro hh; cases hh), hid1 .hs (by intro hh; cases hh)⟩, fun j _ => hid1 (.task j) (by intro hh; cases hh)⟩, ((Keep.tmp.trans (Keep.app hs1.2 hoth hob hidr)).trans (Keep.st hont hn2 hob2)).trans Keep.off⟩

/-- The part whose cells tell where a part lies. -/
def IR.up : IR → Option IR
 | .mach => none
 | .tasks => some .mach
 | .task _ => some .tasks
 | .frames i => some (.task i)
 | .met i _ => some (.frames i)
 | .recs => some .mach
 | .states => some .mach
 | .rings => some .mach
 | .ring _ => some .rings
 | .hn => some .mach
 | .hk => some .mach
 | .hs => some .mach
 | .std => some .hs
 | .stdr _ => some .std

theorem icon_eqs {L1 : Lay IR} {K : IR → Prop} (hag : ∀ y, ¬ K y → L1.id y = L.id y ∧ L1.on y = L.on y ∧ L1.cap y = L.cap y) {x : IR} (hx : ∀ y, K y → y.up ≠ some x) : icon E L1 S x = icon E L S x := by
 have hsc : ∀ y, ¬ K y → ∀ n, L1.sc y n = L.sc y n := fun y hy n => sc_eq (hag y hy).1 (hag y hy).2.1 (hag y hy).2.2 n
 have hid : ∀ y, ¬ K y → L1.id y = L.id y := fun y hy => (hag y hy).1
 have ne : ∀ y, y.up = some x → ¬ K y := fun y hy hk => hx y hk hy
 cases x with
 | mach =>
  simp only [icon]
  rw [mcells_congr (E := E) (L := L) (L' := L1) (S := S) (S' := S) (fun y hy n => hsc y (ne y (by rcases hy with rfl | rfl | rfl | rfl <;> rfl)) n) ⟨hid _ (ne .hn rfl), hid _ (ne .hk rfl), hid _ (ne .hs rfl)⟩
   rfl rfl rfl rfl rfl rfl rfl rfl rfl rfl rfl rfl]
 | tasks =>
  simp only [icon]
  rw [cat_congr (g := trow L1) (g' := trow L) fun j g hj => by simp only [trow]; rw [hid (.task (0 + j)) (ne (.task (0 + j)) rfl)]]
 | task j =>
  simp only [icon]
  congr 1
  funext t
  simp only [tcells]
  rw [hsc (.frames j) (ne (.frames j) rfl)]
 | frames j =>
  simp only [icon]
  congr 1
  funext t
  rw [cat_congr (g := frow L1 j) (g' := frow L j) fun q g hq => by simp only [frow]; rw [hsc (.met j (0 + q)) (ne (.met j (0 + q)) rfl)]]
 | rings =>
  simp only [icon]
  rw [cat_congr (g := ringrow L1) (g' := ringrow L) fun j g hj => by simp only [ringrow]; rw [hsc (.ring (0 + j)) (ne (.ring (0 + j)) rfl)]]
 | hs =>
  simp only [icon]
  rw [show (fun h : PHk => ((0 : Nat), [Cell.bool h.stand.ok, .int .i64 h.stand.running, L1.sc .std h.stand.tasks.length])) = fun h : PHk => (0, [.bool h.stand.ok, .int .i64 h.stand.running, L.sc .std h.stand.tasks.length]) from by
   funext h; rw [hsc .std (ne .std rfl)]]
 | std =>
  simp only [icon]
  congr 1
  funext h
  rw [cat_congr (g := viewrow L1) (g' := viewrow L) fun j g hj => by simp only [viewrow]; rw [hsc (.stdr (0 + j)) (ne (.stdr (0 + j)) rfl)]]
 | met j q => rfl
 | recs => rfl
 | states => rfl
 | ring k => rfl
 | hn => rfl
 | hk => rfl
 | stdr q => rfl

theorem icon_eq {L1 : Lay IR} {r : IR} (hag : ∀ y, y ≠ r → L1.id y = L.id y ∧ L1.on y = L.on y ∧ L1.cap y = L.cap y) {x : IR} (hx : r.up ≠ some x) : icon E L1 S x = icon E L S x :=
 icon_eqs (K := fun y => y = r) hag (fun y hy => by subst hy; exact hx)

/-- A record is told: what append and the store behind it do. -/
theorem Rep.pushRec (h : Rep E L S μ) (x : PRec) (hlen : S.recs.length < roomy) :
  ∃ L' μ1 μ2, aapp 4 32 (.c (L.sc .recs S.recs.length)) (.c (.slc (some (μ.next, 0)) 1 1)) (μ.new (recrow 0 x) 4) = some (.c (L'.sc .recs (S.recs.length + 1)), μ1) ∧
   μ1.st E.m 6 [L'.sc .recs (S.recs.length + 1)] = some μ2 ∧ Rep E L' { S with recs := S.recs ++ [x] } μ2 ∧ (∀ y, y ≠ .recs → L'.id y = L.id y ∧ L'.on y = L.on y ∧ L'.cap y = L.cap y) ∧ Keep L μ L' μ2 := by
 unfold roomy at hlen
 have hl : (cat recrow 0 S.recs).length = S.recs.length * 4 := by rw [cat_length recrow_len]
 obtain ⟨L1, μ1, ea, hL1, hs1, hoth, hob, hon, _, hidr⟩ := (h.has.tmp (cs := recrow 0 x) (sz := 4)).app (Nat.le_succ_of_le h.lo) (r := .recs) (bytes := 32) (n := S.recs.length) (k := 1) (c := 1)
  (b := some (μ.next, 0)) (new := recrow 0 x) rfl (by omega) hl (SlcVal.fresh rfl) ⟨by unfold most; omega, by unfold most; omega⟩ (.inl (by omega))
 obtain ⟨μ2, es, hL2, hs2, hn2, hob2⟩ := hL1.st (r := .mach) (sz := 0) (cs := mcells E L S) (o := 6) (new := [L1.sc .recs (S.recs.length + 1)]) rfl (.inl rfl) (by simp [mcells])
 have hm : L1.id .mach = E.m := (hoth .mach (by intro hh; cases hh)).1.trans h.m
 rw [hm] at es
 refine ⟨L1, μ1, μ2, ea, es, ⟨hL2.weaken fun y z hz => ?_, (h.same.new h.lo).trans (hs1.trans hs2), h.low, hm, h.plan, h.regs⟩, hoth,
  (Keep.tmp.trans (Keep.app hs1.2 hoth hob hidr)).trans (Keep.st (r := .mach) ((hoth .mach (by intro hh; cases hh)).2.1.trans (h.has.on (r := .mach) rfl (.inl rfl))) hn2 hob2)⟩
 by_cases hy : y = .mach
 ·subst hy
  simp only [Con.upd, if_true]
  simp only [icon, Option.some.injEq] at hz ⊢
  rw [← hz]
  congr 1
  have hh : hookc L1 S.hook = hookc L S.hook := by
   unfold hookc; rw [(hoth .hn (by intro hh; cases hh)).1, (hoth .hk (by intro hh; cases hh)).1, (hoth .hs (by intro hh; cases hh)).1]
  have hsc : ∀ y, y ≠ .recs → ∀ n, L1.sc y n = L.sc y n := fun y hy n => sc_eq (hoth y hy).1 (hoth y hy).2.1 (hoth y hy).2.2 n
  simp only [mcells, wr, List.set_cons_succ, List.set_cons_zero, hh, hsc .tasks (by intro hh; cases hh), hsc .states (by intro hh; cases hh), hsc .rings (by intro hh; cases hh), List.length_append, List.length_cons, List.length_nil, Nat.zero_add]
 ·simp only [Con.upd]
  rw [if_neg hy]
  by_cases hy2 : y = .recs
  ·subst hy2
   rw [if_pos rfl]
   simp only [icon, cat_append, cat, List.append_nil] at hz ⊢
   exact hz
  ·rw [if_neg hy2, ← icon_eq (E := E) (S := S) hoth (x := y) (by intro hh; simp only [IR.up, Option.some.injEq] at hh; exact hy hh.symm), ← hz]
   cases y <;> first | rfl | exact absurd rfl hy | exact absurd rfl hy2

def newTask (body : Int) : PTk := ⟨body, 0, [0, 0, 0, 0], -1, ⟨0, 0, 0, 0, 0⟩, [], false, false, 0, 0, 0⟩
def ntk (body : Int) : List Cell :=
 [.int .i64 body, .int .i64 0, .int .i64 0, .int .i64 0, .int .i64 0, .int .i64 0, .int .i64 (-1), .int .i64 0, .int .i64 0, .int .i64 0, .int .i64 0, .int .i64 0, .slc none 0 0, .bool false, .bool false, .int .i64 0, .int .i64 0, .int .i64 0]

/-- A task is made. -/
theorem Rep.pushTask (h : Rep E L S μ) (body : Int) (hlen : S.tasks.length < roomy) :
  ∃ L' μ1 μ2, aapp 1 8 (.c (L.sc .tasks S.tasks.length)) (.c (.slc (some (μ.next + 1, 0)) 1 1)) ((μ.new (ntk body) 0).new [.ptr (some (μ.next, 0))] 1) = some (.c (L'.sc .tasks (S.tasks.length + 1)), μ1) ∧
   μ1.st E.m 3 [L'.sc .tasks (S.tasks.length + 1)] = some μ2 ∧ Rep E L' { S with tasks := S.tasks ++ [newTask body] } μ2 ∧ Stay S L L' ∧ Keep L μ L' μ2 := by
 unfold roomy at hlen
 have hnone : S.tasks[S.tasks.length]? = none := List.getElem?_eq_none (Nat.le_refl _)
 let LA := L.off fun x => decide (x = .frames S.tasks.length)
 have agA : ∀ y, y ≠ .frames S.tasks.length → LA.id y = L.id y ∧ LA.on y = L.on y ∧ LA.cap y = L.cap y := by
  intro y hy
  refine ⟨rfl, ?_, rfl⟩
  show (if decide (y = .frames S.tasks.length) = true then false else L.on y) = L.on y
  rw [if_neg (by simpa using hy)]
 have hA : Has LA (icon E L S) E.lo μ := h.has.off fun x sz cs hx => ⟨fun hp => (by
  have := of_decide_eq_true hp
  subst this
  simp only [icon, hnone] at hx
  cases hx), fun _ => hx⟩
 have hB := hA.new h.lo (r := .task S.tasks.length) (sz := 0) (cs := ntk body) (cap := 0) (by rw [if_pos rfl]; trivial)
 have hlB : E.lo ≤ ((μ.new (ntk body) 0).new [.ptr (some (μ.next, 0))] 1).next := by have := h.lo; simp only [Mem.new_next]; omega
 have hl : (cat (trow L) 0 S.tasks).length = S.tasks.length * 1 := by rw [cat_length (trow_len L)]
 obtain ⟨L1, μ1, ea, hL1, hs1, hoth, hob, hon, _, hidr⟩ := (hB.tmp (cs := [.ptr (some (μ.next, 0))]) (sz := 1)).app hlB (r := .tasks) (bytes := 8) (n := S.tasks.length) (k := 1) (c := 1)
  (b := some (μ.next + 1, 0)) (new := [.ptr (some (μ.next, 0))]) (by simp only [Con.upd]; rw [if_neg (by intro hh; cases hh)]; rfl) (by omega) hl (SlcVal.fresh rfl) ⟨by unfold most; omega, by unfold most; omega⟩ (.inl (by omega))
 have hput : ∀ y, y ≠ .task S.tasks.length → (LA.put (.task S.tasks.length) μ.next 0).id y = LA.id y ∧ (LA.put (.task S.tasks.length) μ.next 0).on y = LA.on y ∧ (LA.put (.task S.tasks.length) μ.next 0).cap y = LA.cap y := by
  intro y hy; simp only [Lay.put, if_neg hy, and_self]
 obtain ⟨μ2, es, hL2, hs2, hn2, hob2⟩ := hL1.st (r := .mach) (sz := 0) (cs := mcells E L S) (o := 3) (new := [L1.sc .tasks (S.tasks.length + 1)])
  (by simp only [Con.upd]; rw [if_neg (by intro hh; cases hh), if_neg (by intro hh; cases hh)]; rfl) (.inl rfl) (by simp [mcells])
 have ag : ∀ y, ¬ (y = .tasks ∨ y = .task S.tasks.length ∨ y = .frames S.tasks.length) → L1.id y = L.id y ∧ L1.on y = L.on y ∧ L1.cap y = L.cap y := by
  intro y hy
  have h1 := hoth y (fun e => hy (.inl e))
  have h2 := hput y (fun e => hy (.inr (.inl e)))
  have h3 := agA y (fun e => hy (.inr (.inr e)))
  exact ⟨h1.1.trans (h2.1.trans h3.1), h1.2.1.trans (h2.2.1.trans h3.2.1), h1.2.2.trans (h2.2.2.trans h3.2.2)⟩
 have hsc : ∀ y, ¬ (y = .tasks ∨ y = .task S.tasks.length ∨ y = .frames S.tasks.length) → ∀ n, L1.sc y n = L.sc y n := fun y hy n => sc_eq (ag y hy).1 (ag y hy).2.1 (ag y hy).2.2 n
 have hidn : L1.id (.task S.tasks.length) = μ.next := (hoth _ (by intro hh; cases hh)).1.trans (by simp [Lay.put])
 have hoff : L1.on (.frames S.tasks.length) = false := by
  rw [(hoth _ (by intro hh; cases hh)).2.1, (hput _ (by intro hh; cases hh)).2.1]
  show (if decide (IR.frames S.tasks.length = .frames S.tasks.length) = true then false else _) = false
  simp
 have hm : L1.id .mach = E.m := (ag .mach (by simp)).1.trans h.m
 have hsct : (LA.put (.task S.tasks.length) μ.next 0).sc .tasks S.tasks.length = L.sc .tasks S.tasks.length := by
  have h2 := hput .tasks (by intro hh; cases hh)
  have h3 := agA .tasks (by intro hh; cases hh)
  exact sc_eq (h2.1.trans h3.1) (h2.2.1.trans h3.2.1) (h2.2.2.trans h3.2.2) _
 rw [hm] at es
 rw [hsct] at ea
 refine ⟨L1, μ1, μ2, ea, es, ⟨hL2.weaken' fun y sz cs hz => ?_, (h.same.new h.lo).trans ((Same.tmp (Nat.le_succ_of_le h.lo)).trans (hs1.trans hs2)), h.low, hm, h.plan, fun t ht => ?_⟩, ?_⟩
 ·have hget : ∀ j, (S.tasks ++ [newTask body])[j]? = if j = S.tasks.length then some (newTask body) else S.tasks[j]? := by
   intro j
   by_cases hj : j = S.tasks.length
   ·subst hj; rw [if_pos rfl]; simp
   ·rw [if_neg hj]
    by_cases hlt : j < S.tasks.length
    ·rw [List.getElem?_append_left hlt]
    ·rw [List.getElem?_eq_none (by simp; omega), List.getElem?_eq_none (by omega)]
  cases y with
  | mach =>
   refine .inl ?_
   simp only [Con.upd, if_true]
   simp only [icon, Option.some.injEq] at hz ⊢
   rw [← hz]
   congr 1
   have hh : hookc L1 S.hook = hookc L S.hook := by
    unfold hookc; rw [(ag .hn (by simp)).1, (ag .hk (by simp)).1, (ag .hs (by simp)).1]
   simp only [mcells, wr, List.set_cons_succ, List.set_cons_zero, hh, hsc .recs (by simp), hsc .states (by simp), hsc .rings (by simp), List.length_append, List.length_cons, List.length_nil, Nat.zero_add]
  | tasks =>
   refine .inl ?_
   simp only [Con.upd]
   rw [if_neg (by intro hh; cases hh), if_pos trivial]
   simp only [icon, cat_append, Nat.zero_add] at hz
   rw [← hz]
   congr 2
   have e1 : cat (trow L1) 0 S.tasks = cat (trow L) 0 S.tasks := cat_congr fun j g hj => by
    have hlt := (List.getElem?_eq_some_iff.1 hj).1
    simp only [trow]; rw [(ag (.task (0 + j)) (by simp; omega)).1]
   rw [e1]
   simp only [cat, trow, hidn, List.append_nil]
  | task j =>
   simp only [icon, hget] at hz
   by_cases hj : j = S.tasks.length
   ·subst hj
    rw [if_pos rfl] at hz
    refine .inl ?_
    simp only [Con.upd]
    rw [if_neg (by intro hh; cases hh), if_neg (by intro hh; cases hh), if_pos trivial]
    rw [← hz]
    simp only [Option.map_some, tcells, newTask, ntk, List.length_nil]
    unfold Lay.sc
    rw [hoff]
    rfl
   ·rw [if_neg hj] at hz
    refine .inl ?_
    simp only [Con.upd]
    rw [if_neg (by intro hh; cases hh), if_neg (by intro hh; cases hh), if_neg (by intro hh; injection hh with hh; exact hj hh)]
    rw [← hz]
    simp only [icon]
    congr 1
    funext t
    simp only [tcells]
    rw [hsc (.frames j) (by simp [hj])]
  | frames j =>
   simp only [icon, hget] at hz
   by_cases hj : j = S.tasks.length
   ·subst hj
    rw [if_pos rfl] at hz
    simp only [Option.map_some, newTask, List.reverse_nil, cat, Option.some.injEq, Prod.mk.injEq] at hz
    exact .inr ⟨hoff, by omega, hz.2.symm⟩
   ·rw [if_neg hj] at hz
    refine .inl ?_
    simp only [Con.upd]
    rw [if_neg (by intro hh; cases hh), if_neg (by intro hh; cases hh), if_neg (by intro hh; cases hh)]
    rw [← hz]
    simp only [icon]
    congr 1
    funext t
    rw [cat_congr (g := frow L j) (g' := frow L1 j) fun q g hq => by simp only [frow]; rw [hsc (.met j (0 + q)) (by simp)]]
  | met j q =>
   simp only [icon, hget] at hz
   by_cases hj : j = S.tasks.length
   ·subst hj
    rw [if_pos rfl] at hz
    simp [newTask] at hz
   ·rw [if_neg hj] at hz
    refine .inl ?_
    simp only [Con.upd]
    rw [if_neg (by intro hh; cases hh), if_neg (by intro hh; cases hh), if_neg (by intro hh; cases hh)]
    exact hz
  | _ =>
   refine .inl ?_
   simp only [Con.upd]
   rw [if_neg (by intro hh; cases hh), if_neg (by intro hh; cases hh), if_neg (by intro hh; cases hh), ← hz]
   rw [← icon_eqs (E := E) (L := L) (L1 := L1) (S := S) ag (by rintro y (rfl | rfl | rfl) <;> simp [IR.up])]
   rfl
 ·rcases List.mem_append.1 ht with ht | ht
  ·exact h.regs t ht
  ·simp only [List.mem_singleton] at ht
   subst ht; rfl
 ·refine ⟨⟨⟨(ag .mach (by simp)).1, (ag .hs (by simp)).1⟩, fun j hj => (ag (.task j) (by simp; omega)).1⟩, ?_⟩
  have honm : L1.on .mach = true := (ag .mach (by simp)).2.1.trans (h.has.on (r := .mach) rfl (.inl rfl))
  exact (((Keep.off.trans Keep.new).trans Keep.tmp).trans (Keep.app hs1.2 hoth hob hidr)).trans (Keep.st (r := .mach) honm hn2 hob2)

/-- The content of the parts when the innermost block of a task has other defers. -/
theorem icon_met {i : Nat} {t : PTk} {f : PFr} {r : List PFr} (ht : S.tasks[i]? = some t) (hf : t.frames = f :: r) (m : List Int) {y : IR} (h1 : y ≠ .frames i) (h2 : y ≠ .met i r.length) :
  icon E L (S.put i { t with frames := { f with met := m } :: r }) y = icon E L S y := by
 cases y with
 | mach => simp only [icon, mcells, PM.put, List.length_set]
 | tasks => simp only [icon, put_trow ht]
 | task j =>
  simp only [icon, put_get ht]
  by_cases hj : j = i
  ·subst hj; rw [if_pos rfl, ht]; simp [tcells, hf]
  ·rw [if_neg hj]
 | frames j =>
  simp only [icon, put_get ht]
  rw [if_neg (by intro hh; exact h1 (by rw [hh]))]
 | met j q =>
  simp only [icon, put_get ht]
  by_cases hj : j = i
  ·subst hj
   rw [if_pos rfl, ht]
   have hq : q ≠ r.length := by intro hh; exact h2 (by rw [hh])
   simp only [Option.bind_some, hf, List.reverse_cons]
   by_cases hlt : q < r.length
   ·rw [List.getElem?_append_left (by simpa using hlt), List.getElem?_append_left (by simpa using hlt)]
   ·rw [List.getElem?_eq_none (by simp; omega), List.getElem?_eq_none (by simp; omega)]
  ·rw [if_neg hj]
 | ring k => rfl
 | _ => simp only [icon, PM.put]

/-- A defer's head is taken off. -/
theorem Rep.popMet (h : Rep E L S μ) {i : Nat} {t : PTk} {f : PFr} {r : List PFr} {x : Int} {m : List Int} (ht : S.tasks[i]? = some t) (hf : t.frames = f :: r) (hm : f.met = x :: m) :
  ∃ μ', μ.st (L.id (.frames i)) (r.length * 8 + 4) [L.sc (.met i r.length) m.length] = some μ' ∧ Rep E L (S.put i { t with frames := { f with met := m } :: r }) μ' ∧ Keep L μ L μ' := by
 have hc : icon E L S (.met i r.length) = some (1, cat irow 0 m.reverse ++ [.int .i64 x]) := by
  simp only [icon, ht, Option.bind_some, hf, get_top, Option.map_some]
  simp only [hm, List.reverse_cons, cat_append, cat, irow, List.append_nil]
 have hcf : icon E L S (.frames i) = some (8, cat (frow L i) 0 (f :: r).reverse) := by simp only [icon, ht, Option.map_some, hf]
 have hlen : (cat (frow L i) 0 (f :: r).reverse).length = (r.length + 1) * 8 := by rw [cat_length (frow_len L i)]; simp
 obtain ⟨μ', e, h1, h2, h3, h4⟩ := (h.has.cut (r := .met i r.length) hc (by omega)).st (r := .frames i) (sz := 8) (cs := cat (frow L i) 0 (f :: r).reverse) (o := r.length * 8 + 4) (new := [L.sc (.met i r.length) m.length])
  (by simp only [Con.upd]; rw [if_neg (by intro hh; cases hh)]; exact hcf) (.inr (by intro hh; rw [hh] at hlen; simp at hlen)) (by rw [hlen]; simp; omega)
 have hcat : wr (cat (frow L i) 0 (f :: r).reverse) (r.length * 8 + 4) [L.sc (.met i r.length) m.length] = cat (frow L i) 0 ({ f with met := m } :: r).reverse := by
  rw [cat_wr (frow_len L i) (a' := { f with met := m }) get_top (by simp) (by rw [Nat.zero_add]; rfl), set_top]
 refine ⟨μ', e, ⟨h1.weaken fun y z hz => ?_, h.same.trans h2, h.low, h.m, h.plan, put_regs h (h.regs t (List.mem_of_getElem? ht))⟩, Keep.st (r := .frames i) (h.has.on hcf (.inr (by intro hh; rw [hh] at hlen; simp at hlen))) h3 h4⟩
 by_cases hy : y = .frames i
 ·subst hy
  simp only [Con.upd, if_true]
  simp only [icon, put_get ht, if_true, Option.map_some] at hz
  rw [hcat]; exact hz
 ·by_cases hy2 : y = .met i r.length
  ·subst hy2
   simp only [Con.upd]
   rw [if_neg (by intro hh; cases hh), if_pos trivial]
   simp only [icon, put_get ht, if_true, Option.bind_some, get_top, Option.map_some] at hz
   exact hz
  ·rw [icon_met ht hf m hy hy2] at hz
   simp only [Con.upd]
   rw [if_neg hy, if_neg hy2]; exact hz

/-- A defer is kept: what append and the store behind it do. -/
theorem Rep.pushMet (h : Rep E L S μ) {i : Nat} {t : PTk} {f : PFr} {r : List PFr} (ht : S.tasks[i]? = some t) (hf : t.frames = f :: r) (x : Int) (hlen : f.met.length < roomy) :
  ∃ L' μ1 μ2, aapp 1 8 (.c (L.sc (.met i r.length) f.met.length)) (.c (.slc (some (μ.next, 0)) 1 1)) (μ.new [.int .i64 x] 1) = some (.c (L'.sc (.met i r.length) (f.met.length + 1)), μ1) ∧
   μ1.st (L.id (.frames i)) (r.length * 8 + 4) [L'.sc (.met i r.length) (f.met.length + 1)] = some μ2 ∧ Rep E L' (S.put i { t with frames := { f with met := x :: f.met } :: r }) μ2 ∧
   (∀ y, y ≠ .met i r.length → L'.id y = L.id y ∧ L'.on y = L.on y ∧ L'.cap y = L.cap y) ∧ Keep L μ L' μ2 := by
 unfold roomy at hlen
 have hc : icon E L S (.met i r.length) = some (1, cat irow 0 f.met.reverse) := by simp only [icon, ht, Option.bind_some, hf, get_top, Option.map_some]
 have hl : (cat irow 0 f.met.reverse).length = f.met.length * 1 := by rw [cat_length irow_len]; simp
 have hcf : icon E L S (.frames i) = some (8, cat (frow L i) 0 (f :: r).reverse) := by simp only [icon, ht, Option.map_some, hf]
 have hlenf : (cat (frow L i) 0 (f :: r).reverse).length = (r.length + 1) * 8 := by rw [cat_length (frow_len L i)]; simp
 obtain ⟨L1, μ1, ea, hL1, hs1, hoth, hob, hon, _, hidr⟩ := (h.has.tmp (cs := [.int .i64 x]) (sz := 1)).app (Nat.le_succ_of_le h.lo) (r := .met i r.length) (bytes := 8) (n := f.met.length) (k := 1) (c := 1)
  (b := some (μ.next, 0)) (new := [.int .i64 x]) hc (by omega) hl (SlcVal.fresh rfl) ⟨by unfold most; omega, by unfold most; omega⟩ (.inl (by omega))
 obtain ⟨μ2, es, hL2, hs2, hn2, hob2⟩ := hL1.st (r := .frames i) (sz := 8) (cs := cat (frow L i) 0 (f :: r).reverse) (o := r.length * 8 + 4) (new := [L1.sc (.met i r.length) (f.met.length + 1)])
  (by simp only [Con.upd]; rw [if_neg (by intro hh; cases hh)]; exact hcf) (.inr (by intro hh; rw [hh] at hlenf; simp at hlenf)) (by rw [hlenf]; simp; omega)
 rw [(hoth (.frames i) (by intro hh; cases hh)).1] at es
 have hsc : ∀ y, y ≠ .met i r.length → ∀ n, L1.sc y n = L.sc y n := fun y hy n => sc_eq (hoth y hy).1 (hoth y hy).2.1 (hoth y hy).2.2 n
 refine ⟨L1, μ1, μ2, ea, es, ⟨hL2.weaken fun y z hz => ?_, (h.same.new h.lo).trans (hs1.trans hs2), h.low, (hoth .mach (by intro hh; cases hh)).1.trans h.m, h.plan, put_regs h (h.regs t (List.mem_of_getElem? ht))⟩, hoth,
  (Keep.tmp.trans (Keep.app hs1.2 hoth hob hidr)).trans (Keep.st (r := .frames i) ((hoth (.frames i) (by intro hh; cases hh)).2.1.trans (h.has.on hcf (.inr (by intro hh; rw [hh] at hlenf; simp at hlenf)))) hn2 hob2)⟩
 by_cases hy : y = .frames i
 ·subst hy
  simp only [Con.upd, if_true]
  simp only [icon, put_get ht, if_true, Option.map_some] at hz
  have hcat : wr (cat (frow L i) 0 (f :: r).reverse) (r.length * 8 + 4) [L1.sc (.met i r.length) (f.met.length + 1)] = cat (frow L1 i) 0 ({ f with met := x :: f.met } :: r).reverse := by
   rw [cat_wr' (frow_len L i) (g' := frow L1 i) (a' := { f with met := x :: f.met }) get_top (by simp) (by rw [Nat.zero_add]; rfl) (fun q g hq hg => by
    simp only [frow]; rw [hsc (.met i (0 + q)) (by intro hh; injection hh; omega)]), set_top]
  rw [hcat]; exact hz
 ·by_cases hy2 : y = .met i r.length
  ·subst hy2
   simp only [Con.upd]
   rw [if_neg (by intro hh; cases hh), if_pos trivial]
   simp only [icon, put_get ht, if_true, Option.bind_some, get_top, Option.map_some] at hz
   simp only [List.reverse_cons, cat_append, cat, List.append_nil] at hz
   exact hz
  ·rw [icon_met ht hf _ hy hy2, icon_eq (E := E) (S := S) hoth (x := y) (by intro hh; simp only [IR.up, Option.some.injEq] at hh; exact hy hh.symm)] at hz
   simp only [Con.upd]
   rw [if_neg hy, if_neg hy2]; exact hz
end
end Go.Proofs.Ytibmnlijoeppaaa

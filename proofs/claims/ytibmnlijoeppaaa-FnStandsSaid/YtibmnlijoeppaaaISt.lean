/-
 How the tasks stand: the list that 'stand' makes.
-/
import Derived.Test.YtibmnlijoeppaaaIW1
namespace Go.Proofs.Ytibmnlijoeppaaa
open Nat renaming reduceEqDiff → zA, reduceAdd → zB, reduceLeDiff → zJ, reduceMul → zK
open Int renaming reduceLT → zC, reduceLE → zD, reduceNeg → zE, reduceBEq → zF, reduceBNe → zG
open AV renaming isTup → zH, cells → zI
set_option linter.unusedSimpArgs false
set_option linter.unusedVariables false

inductive SR where
 | std
 | stdr (i : Nat)
 deriving DecidableEq

def svrow (L : Lay SR) (i : Nat) (v : PView) : List Cell :=
 [.int .i64 v.body, .int .i64 v.state, L.sc (.stdr i) v.regs.length, .int .i64 v.waiter, .int .i64 v.blocks, .int .i64 v.kept, .int .i64 v.begun]
theorem svrow_len (L : Lay SR) (i : Nat) (v : PView) : (svrow L i v).length = 7 := rfl

def scon (L : Lay SR) (l : List PView) : Con SR
 | .std => some (7, cat (svrow L) 0 l)
 | .stdr i => (l[i]?).map fun v => (1, cat irow 0 v.regs)

/-- One more task's view. -/
theorem pushView {L : Lay SR} {l : List PView} {lo : Nat} {μ : Mem} (h : Has L (scon L l) lo μ) (hlo : lo ≤ μ.next) {b : Nat} {v : PView} (hb : b < μ.next) (hv : SlcVal μ 1 (some (b, 2)) 4 4 (cat irow 0 v.regs))
  (hr : v.regs.length = 4) (hlen : l.length < roomy) :
  ∃ (L2 L3 : Lay SR) (μ2 μ4 : Mem), aapp 1 8 (.c (.slc (some (μ.next, 0)) 0 0)) (.c (.slc (some (b, 2)) 4 4)) (μ.new [] 1) = some (.c (L2.sc (.stdr l.length) 4), μ2) ∧
   aapp 7 72 (.c (L.sc .std l.length)) (.c (.slc (some (μ2.next, 0)) 1 1)) (μ2.new [.int .i64 v.body, .int .i64 v.state, L2.sc (.stdr l.length) 4, .int .i64 v.waiter, .int .i64 v.blocks, .int .i64 v.kept, .int .i64 v.begun] 7) =
    some (.c (L3.sc .std (l.length + 1)), μ4) ∧ Has L3 (scon L3 (l ++ [v])) lo μ4 ∧ Same lo μ μ2 ∧ Same lo μ μ4 := by
 unfold roomy at hlen
 have hnone : l[l.length]? = none := List.getElem?_eq_none (Nat.le_refl _)
 have h1 := h.new hlo (r := .stdr l.length) (sz := 1) (cs := []) (cap := 0) (by simp)
 have hsc0 : (L.put (.stdr l.length) μ.next 0).sc (.stdr l.length) 0 = .slc (some (μ.next, 0)) 0 0 := by simp [Lay.sc, Lay.put]
 have hv' : SlcVal (μ.new [] 1) 1 (some (b, 2)) 4 4 (cat irow 0 v.regs) := by
  obtain ⟨e1, ob, e2, e3⟩ := hv
  refine ⟨e1, ob, ?_, e3⟩
  simp only [Mem.new]
  rw [if_neg (by omega)]; exact e2
 obtain ⟨L2, μ2, ea, hL2, hs2, hoth2, _, hon2, _⟩ := h1.app (Nat.le_succ_of_le hlo) (r := .stdr l.length) (sz := 1) (cs := []) (bytes := 8) (n := 0) (k := 4) (c := 4) (b := some (b, 2)) (new := cat irow 0 v.regs)
  (by simp only [Con.upd, if_true]) (by omega) (by simp) hv' ⟨by unfold most; omega, by unfold most; omega⟩ (.inr fun _ => by simp [Lay.put])
 rw [hsc0, Nat.zero_add] at ea
 have hlo2 : lo ≤ μ2.next := Nat.le_trans (Nat.le_succ_of_le hlo) hs2.2
 have hput : ∀ y, y ≠ .stdr l.length → (L.put (.stdr l.length) μ.next 0).id y = L.id y ∧ (L.put (.stdr l.length) μ.next 0).on y = L.on y ∧ (L.put (.stdr l.length) μ.next 0).cap y = L.cap y := by
  intro y hy; simp only [Lay.put, if_neg hy, and_self]
 have ag2 : ∀ y, y ≠ .stdr l.length → L2.id y = L.id y ∧ L2.on y = L.on y ∧ L2.cap y = L.cap y := fun y hy =>
  ⟨(hoth2 y hy).1.trans (hput y hy).1, (hoth2 y hy).2.1.trans (hput y hy).2.1, (hoth2 y hy).2.2.trans (hput y hy).2.2⟩
 have hcat : (cat (svrow L) 0 l).length = l.length * 7 := cat_length (svrow_len L)
 obtain ⟨L3, μ4, eb, hL3, hs3, hoth3, _, hon3, _⟩ := (hL2.tmp (cs := [.int .i64 v.body, .int .i64 v.state, L2.sc (.stdr l.length) 4, .int .i64 v.waiter, .int .i64 v.blocks, .int .i64 v.kept, .int .i64 v.begun]) (sz := 7)).app
  (Nat.le_succ_of_le hlo2) (r := .std) (bytes := 72) (n := l.length) (k := 1) (c := 1) (b := some (μ2.next, 0)) (new := [.int .i64 v.body, .int .i64 v.state, L2.sc (.stdr l.length) 4, .int .i64 v.waiter, .int .i64 v.blocks, .int .i64 v.kept, .int .i64 v.begun])
  (by simp only [Con.upd]; rw [if_neg (by intro hh; cases hh), if_neg (by intro hh; cases hh)]; rfl) (by omega) hcat (SlcVal.fresh rfl) ⟨by unfold most; omega, by unfold most; omega⟩ (.inl (by omega))
 have hstd : L2.sc .std l.length = L.sc .std l.length := sc_eq (ag2 .std (by intro hh; cases hh)).1 (ag2 .std (by intro hh; cases hh)).2.1 (ag2 .std (by intro hh; cases hh)).2.2 _
 rw [hstd] at eb
 have hscr : ∀ i n, i ≠ l.length → L3.sc (.stdr i) n = L.sc (.stdr i) n := by
  intro i n hi
  have a3 := hoth3 (.stdr i) (by intro hh; cases hh)
  have a2 := ag2 (.stdr i) (by intro hh; injection hh with hh; exact hi hh)
  exact sc_eq (a3.1.trans a2.1) (a3.2.1.trans a2.2.1) (a3.2.2.trans a2.2.2) n
 have hscn : ∀ n, L3.sc (.stdr l.length) n = L2.sc (.stdr l.length) n := fun n =>
  sc_eq (hoth3 _ (by intro hh; cases hh)).1 (hoth3 _ (by intro hh; cases hh)).2.1 (hoth3 _ (by intro hh; cases hh)).2.2 n
 refine ⟨L2, L3, μ2, μ4, ea, eb, hL3.weaken fun y z hz => ?_, (Same.tmp hlo).trans hs2, (Same.tmp hlo).trans (hs2.trans ((Same.tmp hlo2).trans hs3))⟩
 cases y with
 | std =>
  simp only [Con.upd]
  rw [if_pos trivial]
  simp only [scon, cat_append, Nat.zero_add] at hz
  rw [← hz]
  congr 2
  have e1 : cat (svrow L3) 0 l = cat (svrow L) 0 l := cat_congr fun j g hj => by
   have hlt := (List.getElem?_eq_some_iff.1 hj).1
   simp only [svrow]; rw [hscr (0 + j) _ (by omega)]
  rw [e1]
  simp only [cat, svrow, hscn, hr, List.append_nil]
 | stdr i =>
  simp only [Con.upd]
  rw [if_neg (by intro hh; cases hh)]
  simp only [scon] at hz
  by_cases hi : i = l.length
  ·subst hi
   rw [if_pos rfl]
   simpa using hz
  ·rw [if_neg (by intro hh; injection hh with hh; exact hi hh), if_neg (by intro hh; injection hh with hh; exact hi hh)]
   simp only [scon]
   by_cases hlt : i < l.length
   ·rw [List.getElem?_append_left hlt] at hz; exact hz
   ·rw [List.getElem?_eq_none (by simp; omega)] at hz; cases hz

/-! 67: impl.machine).stand -/
def b67_0 : RCode := (.seq (.reg [rI 0 (.bin .lss (.t 16) (.t 15)) 17]) (.seq (.ite (.t 17) .skip (.exit 0)) (.seq (.blk 1 (.seq (.reg [rI 0 (.ias (.t 14) (.t 16) 1) 18, rI 1 (.ld none (.t 18)) 19, rI 2 (.mv (.t 19)) 5]) (.reg [rI 0 (.fa (.t 3) 2) 20, rI 2 (.mv (.t 5)) 22, rI 3 (.nc (.t 22)) 23, rI 4 (.fa (.t 23) 0) 24, rI 6 (.mv (.t 5)) 26, rI 7 (.nc (.t 26)) 27, rI 8 (.fa (.t 27) 1) 28, rI 11 (.mv (.t 5)) 31, rI 12 (.nc (.t 31)) 32, rI 13 (.fa (.t 32) 2) 33, rI 16 (.mv (.t 5)) 36, rI 17 (.nc (.t 36)) 37, rI 18 (.fa (.t 37) 6) 38, rI 20 (.mv (.t 5)) 40, rI 21 (.nc (.t 40)) 41, rI 22 (.fa (.t 41) 12) 42, rI 25 (.mv (.t 5)) 45, rI 26 (.nc (.t 45)) 46, rI 27 (.fa (.t 46) 16) 47, rI 29 (.mv (.t 5)) 49, rI 30 (.nc (.t 49)) 50, rI 31 (.fa (.t 50) 17) 51, rI 1 (.ld none (.t 20)) 21, rI 5 (.ld none (.t 24)) 25, rI 9 (.ld none (.t 28)) 29, rI 14 (.sla 4 (.t 33)) 34, rI 19 (.ld none (.t 38)) 39, rI 23 (.ld none (.t 42)) 43, rI 24 (.len (.t 43)) 44, rI 28 (.ld none (.t 47)) 48, rI 32 (.ld none (.t 51)) 52, rI 10 (.bsl [.int .i64 0] 0 []) 30, ⟨15, .app 1 8 (.t 30) (.t 34), some 35, none, [.ld 21 none (.t 20), .ld 25 none (.t 24), .ld 29 none (.t 28), .ld 39 none (.t 38), .ld 43 none (.t 42), .ld 48 none (.t 47), .ld 52 none (.t 51)]⟩, rI 33 (.bld [.int .i64 0, .int .i64 0, .slc none 0 0, .int .i64 0, .int .i64 0, .int .i64 0, .int .i64 0] [(0, 1, .t 25), (1, 1, .t 29), (2, 1, .t 35), (3, 1, .t 39), (4, 1, .t 44), (5, 1, .t 48), (6, 1, .t 52)]) 53, rI 34 (.bsl [.int .i64 0, .int .i64 0, .slc none 0 0, .int .i64 0, .int .i64 0, .int .i64 0, .int .i64 0] 1 [(0, .t 53)]) 54, rI 35 (.app 7 72 (.t 21) (.t 54)) 55, rI 36 (.fa (.t 3) 2) 56, ⟨37, .st (.t 56) (.t 55) 1, none, none, []⟩]))) (.reg [rI 0 (.bin .add (.t 16) (.k (.int .i64 1))) 57, rI 1 (.mv (.t 57)) 16]))))
def r67 : RFun := ⟨59, [.cell 2 (some 3)], (.seq (.reg [rI 0 (.alc [.bool false, .int .i64 0, .slc none 0 0]) 2]) (.seq (.reg [rI 0 (.mv (.t 0)) 6, rI 1 (.nc (.t 6)) 7, rI 2 (.fa (.t 7) 4) 8, rI 3 (.ld none (.t 8)) 9, rI 4 (.bld [.bool false, .int .i64 0, .slc none 0 0] [(0, 1, .k (.bool true)), (1, 1, .t 9)]) 10, rI 5 (.alc [.bool false, .int .i64 0, .slc none 0 0]) 3, ⟨6, .st (.t 3) (.t 10) 3, none, none, []⟩]) (.seq (.seq (.reg [rI 0 (.mv (.t 0)) 11, rI 1 (.nc (.t 11)) 12, rI 2 (.fa (.t 12) 3) 13, rI 3 (.ld none (.t 13)) 14, rI 4 (.len (.t 14)) 15, rI 5 (.mv (.k (.int .i64 0))) 16]) (.blk 0 (.loop b67_0))) (.seq (.reg [rI 0 (.ld (some 3) (.t 3)) 58, ⟨1, .st (.t 2) (.t 58) 3, none, none, []⟩]) .ret))))⟩
theorem p67 : prog 67 = some r67 := by kernel_rfl



section
variable {E : IEnv} {L : Lay IR} {S : PM} {μ0 : Mem}

def baseS (μ0 : Mem) (run : Int) (c : Cell) : Mem := (μ0.new [.bool false, .int .i64 0, .slc none 0 0] 0).new [.bool true, .int .i64 run, c] 0

theorem baseS_same {run : Int} {c : Cell} : Same μ0.next μ0 (baseS μ0 run c) := (Same.tmp (Nat.le_refl _)).new (Nat.le_succ _)

/-- What a list's slice value looks like. -/
theorem Has.scf {ι : Type} [DecidableEq ι] {L : Lay ι} {C : Con ι} {lo : Nat} {μ : Mem} (h : Has L C lo μ) {r : ι} {sz n : Nat} {cs : List Cell} (e : C r = some (sz, cs)) (hl : cs.length = n * sz) (hz : 0 < sz) :
  ∃ a c, L.sc r n = .slc a n c := by
 obtain ⟨a, c, h1, _⟩ := h.rd e hl hz
 exact ⟨a, c, h1⟩

/-- A task's registers as a slice. -/
theorem Rep.regsAt {μ : Mem} (h : Rep E L S μ) {i : Nat} {t : PTk} (ht : S.tasks[i]? = some t) :
  vsla 4 (pt (L.id (.task i)) 2) μ = some (.c (.slc (some (L.id (.task i), 2)) 4 4)) ∧ SlcVal μ 1 (some (L.id (.task i), 2)) 4 4 (cat irow 0 t.regs) ∧ L.id (.task i) < μ.next := by
 have hc : icon E L S (.task i) = some (0, tcells L i t) := by simp only [icon, ht, Option.map_some]
 obtain ⟨j, hj, hjj⟩ := h.has.get hc (.inl rfl)
 have hr := h.regs t (List.mem_of_getElem? ht)
 obtain ⟨a, b, c, d, e⟩ : ∃ a b c d, t.regs = [a, b, c, d] := by
  rcases hh : t.regs with _ | ⟨a, _ | ⟨b, _ | ⟨c, _ | ⟨d, _ | ⟨e, l⟩⟩⟩⟩⟩ <;> rw [hh] at hr <;> simp at hr
  exact ⟨a, b, c, d, rfl⟩
 refine ⟨?_, ⟨by rw [e]; rfl, _, hj, ?_, rfl⟩, h.has.lt _ (h.has.on hc (.inl rfl))⟩
 ·simp only [vsla, hj, if_true]
 ·refine rd_append ?_
  rw [e]
  simp only [tcells, e]
  rfl

theorem standLoop (h0 : Rep E L S μ0) (hroom : S.tasks.length < roomy) :
  ∀ (k i : Nat) (fr : Fr) (μ : Mem) (Ls : Lay SR) (s : List It) (Q : Fr → Mem → Prop), i + k = S.tasks.length → Same (μ0.next + 2) (baseS μ0 S.run (Ls.sc .std i)) μ →
  Has Ls (scon Ls ((S.tasks.take i).map PTk.view)) (μ0.next + 2) μ → fr 2 = pt μ0.next 0 → fr 3 = pt (μ0.next + 1) 0 → fr 14 = .c (L.sc .tasks S.tasks.length) → fr 15 = .c (.int .i64 S.tasks.length) → fr 16 = .c (.int .i64 i) →
  (∀ fr' μ' Ls', Same (μ0.next + 2) (baseS μ0 S.run (Ls'.sc .std S.tasks.length)) μ' → Has Ls' (scon Ls' (S.tasks.map PTk.view)) (μ0.next + 2) μ' → fr' 2 = pt μ0.next 0 → fr' 3 = pt (μ0.next + 1) 0 → R s fr' μ' Q) →
  R (.c (.loop b67_0) :: .blk 0 :: s) fr μ Q := by
 intro k
 induction k with
 | zero =>
  intro i fr μ Ls s Q hk hs hL h2 h3 h14 h15 h16 hend
  have hi : i = S.tasks.length := by omega
  subst hi
  rw [List.take_length] at hL
  rw [R_loop]
  simp only [rI, b67_0]
  simp only [w1, w2, ↓reduceIte, h15, h16]
  rw [decide_eq_false (by omega)]
  simp only [w1]
  rw [R_exit rfl]
  refine hend _ _ Ls hs hL ?_ ?_
  ·simp only [w1, ↓reduceIte, zA, h2]
  ·simp only [w1, ↓reduceIte, zA, h3]
 | succ k ih =>
  intro i fr μ Ls s Q hk hs hL h2 h3 h14 h15 h16 hend
  have hlt : i < S.tasks.length := by omega
  have hget : S.tasks[i]? = some S.tasks[i] := List.getElem?_eq_getElem hlt
  have hnx : μ0.next + 2 ≤ μ.next := hs.2
  have h : Rep E L S μ := h0.next (baseS_same.trans (hs.mono (by omega)))
  have htf := h.tfacts hget
  obtain ⟨tb, to, e1, e2⟩ := h.tasksAt hget
  obtain ⟨hsla, hval, htid⟩ := h.regsAt hget
  have hreg := h.regs _ (List.mem_of_getElem? hget)
  obtain ⟨fa, fc, hfs⟩ := h.has.scf (r := .frames i) (sz := 8) (n := S.tasks[i].frames.length) (cs := cat (frow L i) 0 S.tasks[i].frames.reverse) (by simp only [icon, hget, Option.map_some])
   (by rw [cat_length (frow_len L i)]; simp) (by omega)
  rw [hfs] at htf
  have hlv : ((S.tasks.take i).map PTk.view).length = i := by rw [List.length_map, List.length_take]; omega
  obtain ⟨L2, L3, μ2, μ4, ea, eb, hL3, hs2, hs4⟩ := pushView hL (by omega) htid (v := S.tasks[i].view) hval hreg (by rw [hlv]; omega)
  rw [hlv] at ea eb
  have hcell : μ.ld none (μ0.next + 1) 2 = some (.c (Ls.sc .std i)) := by
   rw [hs.ld (by omega), baseS]
   simp only [m1, m2, w2, ↓reduceIte]
  rw [R_loop]
  simp only [rI, b67_0]
  simp only [w1, w2, ↓reduceIte, h15, h16]
  rw [decide_eq_true (by omega)]
  simp only [w1, w2, ↓reduceIte, zA, fillc, rep, h3, h14, h16, e1, e2, htf, hcell, hsla]
  have hl2 : ∀ {n : Option Nat} {b o : Nat} {v : AV}, b < μ0.next + 2 → μ.ld n b o = some v → μ2.ld n b o = some v := fun hb e => (hs2.ld hb).trans e
  have htlt : L.id (.task i) < μ0.next + 2 := by
   have := h0.has.lt (.task i) (h0.has.on (r := .task i) (sz := 0) (cs := tcells L i S.tasks[i]) (by simp only [icon, hget, Option.map_some]) (.inl rfl))
   omega
  refine R_appre (by simp only [w1, ↓reduceIte, zA]; exact ea) ?_ ?_
  ·simp only [List.all_cons, List.all_nil, Re.holds, w1, ↓reduceIte, zA, hl2 (by omega) hcell, hl2 htlt htf.1, hl2 htlt htf.2.1, hl2 htlt htf.2.2.1, hl2 htlt htf.2.2.2.2.1, hl2 htlt htf.2.2.2.2.2.2.2.2.1, hl2 htlt htf.2.2.2.2.2.2.2.2.2, beq_self_eq_true, Bool.and_self]
  obtain ⟨μ5, es, hs5, hn5, ho5⟩ := (hs.trans hs4).st (i := μ0.next + 1) (o := 2) (x := [L3.sc .std (i + 1)]) (μ1 := baseS μ0 S.run (L3.sc .std (i + 1))) (by omega) (by simp only [baseS, m1, m2, stl, wr, zJ, w1, w2, ↓reduceIte, zB])
  simp only [PTk.view] at eb
  simp only [w1, w2, zH, zI, ↓reduceIte, zA, zB, m2, fillc, wr, rep, zJ, zB, List.append_nil, h3, h16, Nat.zero_mul, List.append_nil]
  refine (OptK_of eb ?_)
  simp only [w1, w2, es]
  rw [small (by unfold roomy at hroom; omega), R_lp]
  have htake : (S.tasks.take (i + 1)).map PTk.view = (S.tasks.take i).map PTk.view ++ [S.tasks[i].view] := by
   rw [List.take_succ_eq_append_getElem hlt, List.map_append]; rfl
  refine ih (i + 1) _ μ5 L3 s Q (by omega) hs5 ?_ ?_ ?_ ?_ ?_ ?_ hend
  ·rw [htake]
   refine hL3.frame (by rw [hn5]; exact Nat.le_refl _) fun r hr => ho5 _ ?_
   have := hL3.ge r hr; omega
  ·simp only [w1, ↓reduceIte, zA, h2]
  ·simp only [w1, ↓reduceIte, zA, h3]
  ·simp only [w1, ↓reduceIte, zA, h14]
  ·simp only [w1, ↓reduceIte, zA, h15]
  ·simp only [w1, ↓reduceIte]; rfl

theorem stand_ok (h : Rep E L S μ0) (hroom : S.tasks.length < roomy) :
  Ret 67 [pt E.m 0] μ0 fun v μ' => ∃ Ls : Lay SR, v = .agg [.bool true, .int .i64 S.run, Ls.sc .std S.tasks.length] ∧ Has Ls (scon Ls (S.tasks.map PTk.view)) μ0.next μ' ∧ Same μ0.next μ0 μ' := by
 have hm := h.mfacts
 obtain ⟨ta, tc, hts⟩ := h.has.scf (r := .tasks) (sz := 1) (n := S.tasks.length) (cs := cat (trow L) 0 S.tasks) rfl (by rw [cat_length (trow_len L)]) (by omega)
 refine Ret_of p67 (by simp [r67]) ?_
 simp only [rI, r67, frOf_1]
 have hm2 := (h.tmp (cs := [.bool false, .int .i64 0, .slc none 0 0]) (sz := 0)).mfacts
 simp only [w1, w2, zH, zI, ↓reduceIte, zA, hm2]
 have hE : E.m < μ0.next := by rw [← h.m]; exact h.has.lt _ (h.has.on (r := .mach) rfl (.inl rfl))
 have hne0 : ¬ E.m = μ0.next := by omega
 have hne1 : ¬ E.m = μ0.next + 1 := by omega
 simp only [w1, w2, zH, zI, ↓reduceIte, zB, m1, m2, stl, wr, aRet, aRes, aRes1, zJ, m2, fillc, wr, zJ, zB, hne0, hne1, hm, hts]
 have Ls0 : Has (⟨fun _ => 0, fun _ => false, fun _ => 0⟩ : Lay SR) (scon (⟨fun _ => 0, fun _ => false, fun _ => 0⟩ : Lay SR) ((S.tasks.take 0).map PTk.view)) (μ0.next + 2) (baseS μ0 S.run (.slc none 0 0)) := by
  refine (Has.start (fun _ => rfl)).weaken' fun y sz cs hy => .inr ?_
  cases y with
  | std => simp only [scon, List.take_zero, List.map_nil, cat, Option.some.injEq, Prod.mk.injEq] at hy; exact ⟨rfl, by omega, hy.2.symm⟩
  | stdr i => simp [scon] at hy
 refine standLoop h hroom S.tasks.length 0 _ _ _ _ _ (by omega) Same.refl Ls0 ?_ ?_ ?_ ?_ ?_ ?_
 ·simp only [w1, ↓reduceIte, zA]
 ·simp only [w1, ↓reduceIte, zA]
 ·simp only [w1, ↓reduceIte, zA, hts]
 ·simp only [w1, ↓reduceIte, zA]
 ·simp only [w1, ↓reduceIte]; rfl
 ·intro fr' μ' Ls' hs hL g2 g3
  have l3 : μ'.ld (some 3) (μ0.next + 1) 0 = some (.agg [.bool true, .int .i64 S.run, Ls'.sc .std S.tasks.length]) := by
   rw [hs.ld (by omega), baseS]
   simp only [m1, m2, rd, w1, w2, ↓reduceIte, zB]
  obtain ⟨μ5, es, hs5, hn5, ho5⟩ := hs.st (i := μ0.next) (o := 0) (x := [.bool true, .int .i64 S.run, Ls'.sc .std S.tasks.length])
   (μ1 := (μ0.new [.bool true, .int .i64 S.run, Ls'.sc .std S.tasks.length] 0).new [.bool true, .int .i64 S.run, Ls'.sc .std S.tasks.length] 0) (by omega) (by simp only [baseS, m1, m2, stl, wr, zJ, w1, w2, ↓reduceIte, zB])
  have l2 : μ5.ld (some 3) μ0.next 0 = some (.agg [.bool true, .int .i64 S.run, Ls'.sc .std S.tasks.length]) := by
   rw [hs5.ld (by omega)]
   simp only [m1, m2, rd, w1, w2, ↓reduceIte, zB]
  simp only [w1, w2, zH, zI, ↓reduceIte, zA, zB, g2, g3, l3, es, l2]
  refine ⟨_, rfl, Ls', rfl, ?_, ?_⟩
  ·have h2 : Has Ls' (scon Ls' (S.tasks.map PTk.view)) (μ0.next + 2) μ5 := hL.frame (by rw [hn5]; exact Nat.le_refl _) fun r hr => ho5 _ (by have := hL.ge r hr; omega)
   exact ⟨h2.inj, h2.lt, fun r hr => by have := h2.ge r hr; omega, h2.obj⟩
  ·exact ((Same.tmp (Nat.le_refl _)).new (Nat.le_succ _)).trans (hs5.mono (by omega))
end
end Go.Proofs.Ytibmnlijoeppaaa

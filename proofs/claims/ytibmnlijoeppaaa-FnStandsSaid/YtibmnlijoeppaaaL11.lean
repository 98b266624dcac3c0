/-
 The law FnStands returns true.
-/
import Derived.Test.YtibmnlijoeppaaaDAll
import Derived.Test.YtibmnlijoeppaaaWB
import Derived.Test.YtibmnlijoeppaaaWS
import Derived.Test.YtibmnlijoeppaaaS11
namespace Go.Proofs.Ytibmnlijoeppaaa
open Nat renaming reduceEqDiff → zA, reduceAdd → zB, reduceLeDiff → zJ, reduceMul → zK
open Int renaming reduceLT → zC, reduceLE → zD, reduceNeg → zE, reduceBEq → zF, reduceBNe → zG
open AV renaming isTup → zH, cells → zI
set_option linter.unusedSimpArgs false
set_option linter.unusedVariables false

/-! 11: laws.FnStands -/
def b11_0 : RCode := (.seq (.seq (.reg [rI 0 (.mv (.t 11)) 76, rI 1 (.bin .geq (.t 76) (.k (.int .i64 0))) 77]) (.ite (.t 77) .skip (.exit 2))) (.seq (.blk 3 (.reg [rI 0 (.mv (.t 10)) 84, rI 1 (.mv (.t 11)) 85, rI 2 (.ias (.t 84) (.t 85) 1) 86, ⟨3, .st (.t 86) (.k (.bool true)) 1, none, none, []⟩])) (.reg [rI 0 (.fa (.t 9) 2) 78, rI 1 (.ld none (.t 78)) 79, rI 2 (.mv (.t 11)) 80, rI 3 (.ias (.t 79) (.t 80) 7) 81, rI 4 (.fa (.t 81) 3) 82, rI 5 (.ld none (.t 82)) 83, rI 6 (.mv (.t 83)) 11])))
def b11_1 : RCode := (.seq (.reg [rI 0 (.bin .lss (.t 90) (.t 89)) 91]) (.seq (.ite (.t 91) .skip (.exit 4)) (.seq (.blk 5 (.seq (.reg [rI 0 (.mv (.t 90)) 92, rI 1 (.ias (.t 88) (.t 90) 7) 93, rI 2 (.ld (some 7) (.t 93)) 94, rI 3 (.alc [.int .i64 0, .int .i64 0, .slc none 0 0, .int .i64 0, .int .i64 0, .int .i64 0, .int .i64 0]) 13, rI 4 (.mv (.t 92)) 12, ⟨5, .st (.t 13) (.t 94) 7, none, none, []⟩]) (.seq (.seq (.reg [rI 0 (.fa (.t 13) 1) 95, rI 1 (.ld none (.t 95)) 96, rI 2 (.bin .eql (.t 96) (.k (.int .i64 4))) 97, rI 3 (.mv (.t 97)) 98, ⟨4, .fa (.t 13) 5, some 99, some (98, true), []⟩, ⟨5, .ld none (.t 99), some 100, some (98, true), []⟩, ⟨6, .fa (.t 13) 6, some 101, some (98, true), []⟩, ⟨7, .ld none (.t 101), some 102, some (98, true), []⟩, ⟨8, .bin .neq (.t 100) (.t 102), some 103, some (98, true), []⟩, ⟨9, .mv (.t 103), some 104, some (98, true), []⟩, ⟨10, .fa (.t 13) 4, some 105, some (104, false), []⟩, ⟨11, .ld none (.t 105), some 106, some (104, false), []⟩, ⟨12, .bin .neq (.t 106) (.k (.int .i64 0)), some 107, some (104, false), []⟩, ⟨13, .pick (.t 104) (.k (.bool true)) (.t 107), some 108, some (98, true), []⟩, rI 14 (.pick (.t 98) (.t 108) (.k (.bool false))) 109]) (.ite (.t 109) (.seq (.reg [rI 0 (.mv (.k (.bool false))) 4]) .ret) .skip)) (.seq (.seq (.reg [rI 0 (.mv (.t 10)) 110, rI 1 (.mv (.t 12)) 111, rI 2 (.ias (.t 110) (.t 111) 1) 112, rI 4 (.fa (.t 13) 1) 114, rI 3 (.ld none (.t 112)) 113, rI 5 (.ld none (.t 114)) 115, rI 6 (.bin .eql (.t 115) (.k (.int .i64 3))) 116, rI 7 (.mv (.t 116)) 117, ⟨8, .fa (.t 13) 1, some 118, some (117, false), []⟩, ⟨9, .ld none (.t 118), some 119, some (117, false), []⟩, ⟨10, .bin .eql (.t 119) (.k (.int .i64 2)), some 120, some (117, false), []⟩, rI 11 (.pick (.t 117) (.k (.bool true)) (.t 120)) 121, rI 12 (.eq true .bool (.t 113) (.t 121)) 122, rI 13 (.mv (.t 122)) 123, ⟨14, .fa (.t 13) 1, some 124, some (123, false), []⟩, ⟨17, .mv (.t 12), some 127, some (123, false), []⟩, ⟨18, .fa (.t 9) 1, some 128, some (123, false), []⟩, ⟨15, .ld none (.t 124), some 125, some (123, false), []⟩, ⟨16, .bin .eql (.t 125) (.k (.int .i64 2)), some 126, some (123, false), []⟩, ⟨19, .ld none (.t 128), some 129, some (123, false), []⟩, ⟨20, .bin .eql (.t 127) (.t 129), some 130, some (123, false), []⟩, ⟨21, .eq true .bool (.t 126) (.t 130), some 131, some (123, false), []⟩, rI 22 (.pick (.t 123) (.k (.bool true)) (.t 131)) 132]) (.ite (.t 132) (.seq (.reg [rI 0 (.mv (.k (.bool false))) 4]) .ret) .skip)) (.seq (.reg [rI 0 (.fa (.t 13) 1) 133, rI 1 (.ld none (.t 133)) 134, rI 2 (.bin .eql (.t 134) (.k (.int .i64 1))) 135, rI 3 (.mv (.t 135)) 136, ⟨4, .fa (.t 13) 3, some 137, some (136, true), []⟩, ⟨5, .ld none (.t 137), some 138, some (136, true), []⟩, ⟨6, .bin .neq (.t 138) (.k (.int .i64 (-1))), some 139, some (136, true), []⟩, rI 7 (.pick (.t 136) (.t 139) (.k (.bool false))) 140]) (.ite (.t 140) (.seq (.reg [rI 0 (.mv (.k (.bool false))) 4]) .ret) .skip)))))) (.reg [rI 0 (.bin .add (.t 90) (.k (.int .i64 1))) 141, rI 1 (.mv (.t 141)) 90]))))
def t11 : RCode := (.seq (.reg [rI 0 (.fa (.t 9) 2) 70, rI 1 (.ld none (.t 70)) 71, rI 2 (.len (.t 71)) 72, rI 3 (.mks [.bool false] 1 (.t 72) (.t 72)) 73, rI 4 (.mv (.t 73)) 10]) (.seq (.seq (.reg [rI 0 (.fa (.t 9) 1) 74, rI 1 (.ld none (.t 74)) 75, rI 2 (.mv (.t 75)) 11]) (.blk 2 (.loop b11_0))) (.seq (.reg [rI 0 (.fa (.t 9) 2) 87, rI 1 (.ld none (.t 87)) 88, rI 2 (.len (.t 88)) 89, rI 3 (.mv (.k (.int .i64 0))) 90]) (.blk 4 (.loop b11_1)))))
def b11_2 : RCode := (.seq (.seq (.reg [rI 0 (.mv (.t 7)) 26, rI 1 (.bin .lss (.t 26) (.k (.int .i64 5))) 27]) (.ite (.t 27) .skip (.exit 0))) (.seq (.blk 1 (.seq (.reg [rI 0 (.mv (.t 1)) 30, rI 1 (.mv (.t 7)) 31, rI 3 (.mv (.t 1)) 33, rI 4 (.mv (.t 7)) 34, rI 5 (.bin .add (.t 34) (.k (.int .i64 5))) 35, rI 9 (.fa (.t 6) 1) 39, rI 10 (.ld none (.t 39)) 40, rI 11 (.len (.t 40)) 41, rI 12 (.bin .add (.t 41) (.k (.int .i64 1))) 42, ⟨2, .call 24 [.t 30, .t 31], some 32, none, [.ld 40 none (.t 39)]⟩, ⟨6, .call 24 [.t 33, .t 35], some 36, none, [.ld 40 none (.t 39)]⟩, rI 7 (.bin .mul (.k (.int .i64 256)) (.t 36)) 37, rI 8 (.bin .add (.t 32) (.t 37)) 38, rI 13 (.bin .rem (.t 38) (.t 42)) 43, rI 14 (.mv (.t 43)) 8]) (.seq (.reg [rI 0 (.ld (some 1) (.t 5)) 44, rI 1 (.mv (.t 8)) 45, rI 2 (.call 39 [.t 44, .k (.int .i64 600), .t 45]) 46, rI 3 (.alc [.bool false, .int .i64 0, .slc none 0 0]) 9, ⟨4, .st (.t 9) (.t 46) 3, none, none, []⟩]) (.seq (.seq (.reg [rI 2 (.mv (.t 8)) 49, rI 0 (.ld (some 3) (.t 9)) 47, rI 1 (.ld (some 1) (.t 5)) 48, ⟨3, .call 41 [.t 48, .k (.int .i64 600), .t 49], some 50, none, [.ld 47 (some 3) (.t 9)]⟩, rI 4 (.call 40 [.t 47, .t 50]) 51, rI 5 (.nt (.t 51)) 52]) (.ite (.t 52) (.seq (.reg [rI 0 (.mv (.k (.bool false))) 4]) .ret) .skip)) (.seq (.seq (.reg [rI 0 (.mv (.t 8)) 53, rI 1 (.fa (.t 6) 1) 54, rI 2 (.ld none (.t 54)) 55, rI 3 (.len (.t 55)) 56, rI 4 (.bin .eql (.t 53) (.t 56)) 57]) (.ite (.t 57) (.seq (.seq (.reg [rI 0 (.fa (.t 9) 0) 58, rI 1 (.ld none (.t 58)) 59]) (.ite (.t 59) (.seq (.reg [rI 0 (.mv (.k (.bool false))) 4]) .ret) .skip)) (.seq (.reg [rI 0 (.ld (some 1) (.t 5)) 60, rI 1 (.call 30 [.t 60, .k (.int .i64 600)]) 61, ⟨2, .st (.t 9) (.t 61) 3, none, none, []⟩]) (.seq (.seq (.reg [rI 0 (.ld (some 3) (.t 9)) 62, rI 1 (.ld (some 1) (.t 5)) 63, ⟨2, .call 42 [.t 63, .k (.int .i64 600)], some 64, none, [.ld 62 (some 3) (.t 9)]⟩, rI 3 (.call 40 [.t 62, .t 64]) 65, rI 4 (.nt (.t 65)) 66]) (.ite (.t 66) (.seq (.reg [rI 0 (.mv (.k (.bool false))) 4]) .ret) .skip)) (.seq (.reg [rI 0 (.fa (.t 6) 0) 67, rI 1 (.ld none (.t 67)) 68, rI 2 (.bin .neq (.t 68) (.k (.int .i64 2))) 69]) (.ite (.t 69) (.exit 1) .skip))))) .skip)) t11))))) (.reg [rI 0 (.mv (.t 7)) 28, rI 1 (.bin .add (.t 28) (.k (.int .i64 1))) 29, rI 2 (.mv (.t 29)) 7])))
def r11 : RFun := ⟨142, [.tmp 4], (.seq (.reg [rI 0 (.mv (.k (.bool false))) 4]) (.seq (.seq (.reg [rI 0 (.mv (.t 0)) 14, rI 1 (.len (.t 14)) 15, rI 2 (.bin .gtr (.t 15) (.k (.int .i64 1048576))) 16, rI 3 (.mv (.t 16)) 17, ⟨4, .mv (.t 1), some 18, some (17, false), []⟩, ⟨5, .len (.t 18), some 19, some (17, false), []⟩, ⟨6, .bin .gtr (.t 19) (.k (.int .i64 1048576)), some 20, some (17, false), []⟩, rI 7 (.pick (.t 17) (.k (.bool true)) (.t 20)) 21]) (.ite (.t 21) (.seq (.reg [rI 0 (.mv (.k (.bool true))) 4]) .ret) .skip)) (.seq (.reg [rI 0 (.mv (.t 0)) 22, rI 1 (.call 33 [.t 22]) 23, rI 2 (.alc [.slc none 0 0]) 5, ⟨3, .st (.t 5) (.t 23) 1, none, none, []⟩]) (.seq (.reg [rI 0 (.ld (some 1) (.t 5)) 24, rI 1 (.call 37 [.t 24, .k (.int .i64 600)]) 25, rI 2 (.alc [.int .i64 0, .slc none 0 0, .int .i64 0, .int .i64 0, .slc none 0 0]) 6, ⟨3, .st (.t 6) (.t 25) 5, none, none, []⟩]) (.seq (.seq (.reg [rI 0 (.mv (.k (.int .i64 0))) 7]) (.blk 0 (.loop b11_2))) (.seq (.reg [rI 0 (.mv (.k (.bool true))) 4]) .ret))))))⟩
theorem p11 : prog 11 = some r11 := by kernel_rfl



theorem StandV.same {hi hi' : Nat} {μ μ' : Mem} {v : AV} {s : PStand} (h : StandV hi μ v s) (hs : Same hi' μ μ') (hh : hi ≤ hi') : StandV hi μ' v s := by
 obtain ⟨sc, g, e, h1, h2⟩ := h
 exact ⟨sc, g, e, h1.same hs hh, fun i v hv => (h2 i v hv).same hs hh⟩
theorem StandV.mono {hi hi' : Nat} {μ : Mem} {v : AV} {s : PStand} (h : StandV hi μ v s) (hh : hi ≤ hi') : StandV hi' μ v s := by
 obtain ⟨sc, g, e, h1, h2⟩ := h
 exact ⟨sc, g, e, h1.mono hh, fun i v hv => (h2 i v hv).mono hh⟩

def bcell (_ : Nat) (b : Bool) : List Cell := [.bool b]
theorem bcell_len (i : Nat) (b : Bool) : (bcell i b).length = 1 := rfl
theorem bool_rep : ∀ (n i : Nat), cat bcell i (List.replicate n false) = rep [.bool false] n
 | 0, _ => rfl
 | n + 1, i => by simp only [List.replicate_succ, cat, rep, bcell, bool_rep n]

/-- Who waits, from a task on to the last. -/
def Way (ts : List PView) : Int → List Nat → Prop
 | cur, [] => cur = -1
 | cur, k :: l => cur = k ∧ ∃ v, ts[k]? = some v ∧ Way ts v.waiter l
theorem Ch.way {ts : List PView} : ∀ {c : List Nat} {k : Nat}, Ch (ts.map fun v => (v.state, v.waiter)) (k :: c) → Way ts k (k :: c)
 | [], k, h => by
  obtain ⟨rfl, s, hs⟩ := h
  rw [List.getElem?_map] at hs
  obtain ⟨v, e1, e2⟩ := Option.map_eq_some_iff.1 hs
  exact ⟨rfl, v, e1, congrArg Prod.snd e2⟩
 | j :: c, k, h => by
  obtain ⟨⟨s, hs⟩, h2⟩ := h
  rw [List.getElem?_map] at hs
  obtain ⟨v, e1, e2⟩ := Option.map_eq_some_iff.1 hs
  refine ⟨rfl, v, e1, ?_⟩
  rw [show v.waiter = j from congrArg Prod.snd e2]
  exact h2.way
def marks (B : List Bool) (l : List Nat) : List Bool := l.foldl (fun B i => B.set i true) B
theorem marks_len : ∀ {l : List Nat} {B : List Bool}, (marks B l).length = B.length
 | [], B => rfl
 | k :: l, B => by unfold marks; rw [List.foldl_cons]; exact (marks_len (l := l)).trans (List.length_set ..)
theorem marks_get : ∀ {l : List Nat} {B : List Bool} {t : Nat} {b : Bool}, B[t]? = some b → (marks B l)[t]? = some (b || decide (t ∈ l))
 | [], B, t, b, h => by simpa [marks] using h
 | k :: l, B, t, b, h => by
  unfold marks
  rw [List.foldl_cons]
  by_cases e : k = t
  ·subst e
   have hlt : k < B.length := (List.getElem?_eq_some_iff.1 h).1
   exact (marks_get (l := l) (b := true) (by rw [List.getElem?_set_self hlt])).trans (by simp)
  ·refine (marks_get (l := l) (b := b) (by rw [List.getElem?_set_ne e]; exact h)).trans ?_
   congr 2
   simp [List.mem_cons, Ne.symm e]

section
variable {L : Lay Unit} {lo hi n9 : Nat} {μ0 : Mem} {sc : Cell} {ts : List PView} {gs : Nat → Cell}

theorem busyLoop {v1 v5 v6 v7 : AV} (hS : Rd hi μ0 7 sc ts.length (cat (vrow gs) 0 ts)) (hh : hi ≤ lo) (hn9 : n9 < lo) (l2 : μ0.ld none n9 2 = some (.c sc)) (hn : 0 < ts.length ∧ ts.length ≤ 60) {Q : Fr → Mem → Prop} {s : List It} :
 ∀ (l : List Nat) (cur : Int) (B : List Bool) (C : Con Unit) (fr : Fr) (μ : Mem), Way ts cur l → Has L C lo μ → C () = some (1, cat bcell 0 B) → B.length = ts.length → Same lo μ0 μ → fr 9 = pt n9 0 → fr 10 = .c (L.sc () ts.length) → fr 11 = .c (.int .i64 cur) → fr 1 = v1 → fr 5 = v5 → fr 6 = v6 → fr 7 = v7 →
  (∀ fr' μ' C', Has L C' lo μ' → C' () = some (1, cat bcell 0 (marks B l)) → Same lo μ0 μ' → fr' 9 = pt n9 0 → fr' 10 = .c (L.sc () ts.length) → fr' 1 = v1 → fr' 5 = v5 → fr' 6 = v6 → fr' 7 = v7 → R s fr' μ' Q) → R (.c (.loop b11_0) :: .blk 2 :: s) fr μ Q := by
 obtain ⟨sa, scap, hs⟩ := hS.slc
 intro l
 induction l with
 | nil =>
  intro cur B C fr μ hw h hC hB hsm h9 h10 h11 h1 h5 h6 h7 hend
  have hc : cur = -1 := hw
  rw [R_loop]
  simp only [rI, b11_0]
  simp only [w1, w2, ↓reduceIte, h11]
  rw [decide_eq_false (by omega)]
  simp only [w1]
  rw [R_exit rfl]
  refine hend _ μ C h hC hsm ?_ ?_ ?_ ?_ ?_ ?_
  ·simp only [w1, ↓reduceIte, zA, h9]
  ·simp only [w1, ↓reduceIte, zA, h10]
  ·simp only [w1, ↓reduceIte, zA, h1]
  ·simp only [w1, ↓reduceIte, zA, h5]
  ·simp only [w1, ↓reduceIte, zA, h6]
  ·simp only [w1, ↓reduceIte, zA, h7]
 | cons k l ih =>
  intro cur B C fr μ hw h hC hB hsm h9 h10 h11 h1 h5 h6 h7 hend
  obtain ⟨rfl, v, hv, hw'⟩ := hw
  have hk : k < ts.length := (List.getElem?_eq_some_iff.1 hv).1
  have hlen : (cat bcell 0 B).length = ts.length * 1 := by rw [cat_length bcell_len, hB]
  obtain ⟨a, cc, hsc⟩ := h.scf hC hlen (by omega)
  have hslot := h.slot hC hlen (by omega) (j := k) hk .i64
  obtain ⟨μ1, e1, g1, o1⟩ := h.put1 bcell_len hC (j := k) (k := 0) (a := B[k]) (a' := true) (x := .bool true) (List.getElem?_eq_getElem (by omega)) (by omega) rfl
  have hs1 : Same lo μ μ1 := ⟨fun b hb => o1.2 b fun hon hh => by have := h.ge _ hon; omega, by have := o1.1; omega⟩
  have hsm1 := hsm.trans hs1
  obtain ⟨b3, o3, k1, _, _, k4⟩ := (hS.same hsm1 hh).row (vrow_len gs) (by omega) hv
  have q3 := k4 3 (by omega)
  simp only [vrow, List.getElem?_cons_zero, List.getElem?_cons_succ, Option.map_some] at q3
  have l2' := ldo l2 hsm1 hn9
  rw [hs] at k1 l2'
  rw [hsc] at hslot h10
  simp only [Nat.add_zero] at e1
  rw [R_loop]
  simp only [rI, b11_0]
  simp only [w1, w2, ↓reduceIte, h11]
  rw [decide_eq_true (by omega)]
  simp only [w1, w2, zH, zI, ↓reduceIte, zA, h9, h10, h11, hslot, e1, l2', k1, q3]
  rw [R_lp]
  refine ih v.waiter (B.set k true) _ _ μ1 hw' g1 (by simp only [Con.upd, if_true]) (by rw [List.length_set]; exact hB) hsm1 ?_ ?_ ?_ ?_ ?_ ?_ ?_ hend
  ·simp only [w1, ↓reduceIte, zA, h9]
  ·simp only [w1, ↓reduceIte, zA, h10, hsc]
  ·simp only [w1, ↓reduceIte]
  ·simp only [w1, ↓reduceIte, zA, h1]
  ·simp only [w1, ↓reduceIte, zA, h5]
  ·simp only [w1, ↓reduceIte, zA, h6]
  ·simp only [w1, ↓reduceIte, zA, h7]
end

/-- What the law wants of a task's view. -/
def VOK (run : Int) (i : Nat) (v : PView) (b : Bool) : Prop := (v.state = 4 → v.kept = v.begun ∧ v.blocks = 0) ∧
 ((v.state = 2 ∧ b = true ∧ (i : Int) = run) ∨ (v.state = 3 ∧ b = true ∧ (i : Int) ≠ run) ∨ ((v.state = 0 ∨ v.state = 1 ∨ v.state = 4) ∧ b = false ∧ v.waiter = -1 ∧ (i : Int) ≠ run))

section
variable {hi n9 : Nat} {μ0 : Mem} {sc bc : Cell} {ts : List PView} {gs : Nat → Cell} {B : List Bool} {run : Int}
theorem viewLoop {v1 v5 v6 v7 : AV} (hS : Rd hi μ0 7 sc ts.length (cat (vrow gs) 0 ts)) (hB : Rd hi μ0 1 bc B.length (cat bcell 0 B)) (hlB : B.length = ts.length) (hh : hi ≤ μ0.next) (hn9 : n9 < μ0.next) (l1 : μ0.ld none n9 1 = some (.c (.int .i64 run))) (hn : ts.length ≤ 60)
  (hok : ∀ (i : Nat) (v : PView) (b : Bool), ts[i]? = some v → B[i]? = some b → VOK run i v b) {Q : Fr → Mem → Prop} {s : List It} :
 ∀ (k i : Nat) (fr : Fr) (μ : Mem), i + k = ts.length → Same μ0.next μ0 μ → fr 9 = pt n9 0 → fr 10 = .c bc → fr 88 = .c sc → fr 89 = .c (.int .i64 ts.length) → fr 90 = .c (.int .i64 i) → fr 1 = v1 → fr 5 = v5 → fr 6 = v6 → fr 7 = v7 →
  (∀ fr' μ', Same μ0.next μ0 μ' → fr' 1 = v1 → fr' 5 = v5 → fr' 6 = v6 → fr' 7 = v7 → R s fr' μ' Q) → R (.c (.loop b11_1) :: .blk 4 :: s) fr μ Q := by
 obtain ⟨sa, scap, hs⟩ := hS.slc
 obtain ⟨ba, bcap, hb⟩ := hB.slc
 intro k
 induction k with
 | zero =>
  intro i fr μ hk hsm h9 h10 h88 h89 h90 h1 h5 h6 h7 hend
  rw [R_loop]
  simp only [rI, b11_1]
  simp only [w1, w2, ↓reduceIte, zE, h89, h90]
  rw [decide_eq_false (by omega)]
  simp only [w1, zE]
  rw [R_exit rfl]
  refine hend _ μ hsm ?_ ?_ ?_ ?_
  ·simp only [w1, ↓reduceIte, zA, h1]
  ·simp only [w1, ↓reduceIte, zA, h5]
  ·simp only [w1, ↓reduceIte, zA, h6]
  ·simp only [w1, ↓reduceIte, zA, h7]
 | succ k ih =>
  intro i fr μ hk hsm h9 h10 h88 h89 h90 h1 h5 h6 h7 hend
  have hi' : ts[i]? = some ts[i] := List.getElem?_eq_getElem (by omega)
  have hi'' : B[i]? = some B[i] := List.getElem?_eq_getElem (by omega)
  obtain ⟨hv4, hcase⟩ := hok i _ _ hi' hi''
  generalize ts[i] = v at *
  generalize B[i] = b at *
  have hA : Same μ.next μ (μ.new (vrow gs i v) 0) := Same.tmp (Nat.le_refl _)
  have hA0 := hsm.trans (hA.mono hsm.2)
  obtain ⟨bi, bo, e1, _, e3, _⟩ := (hS.same hsm hh).row (vrow_len gs) (by omega) hi'
  obtain ⟨b3, o3, k1, _, _, k4⟩ := (hB.same hA0 hh).row bcell_len (by omega) hi''
  have q3 := k4 0 (by omega)
  simp only [bcell, List.getElem?_cons_zero, Option.map_some, Nat.add_zero] at q3
  have lA : ∀ o y, (vrow gs i v)[o]? = some y → (μ.new (vrow gs i v) 0).ld none μ.next o = some (.c y) := fun o y e => new_ld0 e
  have lr := ldo l1 hA0 hn9
  have s1 := new_st0 (μ := μ) (cs := [.int .i64 0, .int .i64 0, .slc none 0 0, .int .i64 0, .int .i64 0, .int .i64 0, .int .i64 0]) (x := vrow gs i v) (e := 0) rfl
  have e7 : ∀ f : Nat → Cell, (vrow f i v).length = 7 := fun f => rfl
  rw [hs] at e1 h88
  rw [hb] at k1 h10
  rw [R_loop]
  simp only [rI, b11_1]
  simp only [w1, w2, ↓reduceIte, zE, h89, h90]
  rw [decide_eq_true (by omega)]
  have x1 := lA 1 _ rfl
  have x3 := lA 3 _ rfl
  have x4 := lA 4 _ rfl
  have x5 := lA 5 _ rfl
  have x6 := lA 6 _ rfl
  have fin : ∀ (fr' : Fr) (A : Mem), Same μ0.next μ0 A → fr' 9 = pt n9 0 → fr' 10 = .c bc → fr' 88 = .c sc → fr' 89 = .c (.int .i64 ts.length) → fr' 90 = .c (.int .i64 ((i : Int) + 1)) → fr' 1 = v1 → fr' 5 = v5 → fr' 6 = v6 → fr' 7 = v7 → R (.c (.loop b11_1) :: .blk 4 :: s) fr' A Q :=
   fun fr' A a1 a2 a3 a4 a5 a6 a7 a8 a9 a10 => ih (i + 1) fr' A (by omega) a1 a2 a3 a4 a5 a6 a7 a8 a9 a10 hend
  simp only [w1, w2, zH, zI, ↓reduceIte, zA, zE, h90, h88, e1, e3, e7, s1]
  generalize μ.new (vrow gs i v) 0 = A at *
  rcases hcase with ⟨hst, rfl, hrun⟩ | ⟨hst, rfl, hrun⟩ | ⟨hst, rfl, hwt, hrun⟩
  ·rw [hst] at x1
   simp only [w1, w2, ↓reduceIte, zA, zE, zF, x1, h9, h10, h90, k1, q3, lr, beq_tt hrun, aeq, beq_self_eq_true]
   rw [small (by omega), R_lp]
   refine fin _ A hA0 ?_ ?_ ?_ ?_ ?_ ?_ ?_ ?_ ?_ <;> simp only [w1, ↓reduceIte, zA, h9, h10, h88, h89, h1, h5, h6, h7, hb, hs]
  ·rw [hst] at x1
   simp only [w1, w2, ↓reduceIte, zA, zE, zF, x1, h9, h10, h90, k1, q3, lr, beq_ff hrun, aeq, beq_self_eq_true]
   rw [small (by omega), R_lp]
   refine fin _ A hA0 ?_ ?_ ?_ ?_ ?_ ?_ ?_ ?_ ?_ <;> simp only [w1, ↓reduceIte, zA, h9, h10, h88, h89, h1, h5, h6, h7, hb, hs]
  ·rw [hwt] at x3
   rcases hst with hst | hst | hst
   ·rw [hst] at x1
    simp only [w1, w2, ↓reduceIte, zA, zE, zF, x1, h9, h10, h90, k1, q3, lr, beq_ff hrun, aeq, beq_self_eq_true]
    rw [small (by omega), R_lp]
    refine fin _ A hA0 ?_ ?_ ?_ ?_ ?_ ?_ ?_ ?_ ?_ <;> simp only [w1, ↓reduceIte, zA, h9, h10, h88, h89, h1, h5, h6, h7, hb, hs]
   ·rw [hst] at x1
    simp only [w1, w2, ↓reduceIte, zA, zE, zF, x1, x3, h9, h10, h90, k1, q3, lr, beq_ff hrun, aeq, beq_self_eq_true]
    rw [small (by omega), R_lp]
    refine fin _ A hA0 ?_ ?_ ?_ ?_ ?_ ?_ ?_ ?_ ?_ <;> simp only [w1, ↓reduceIte, zA, zE, h9, h10, h88, h89, h1, h5, h6, h7, hb, hs]
   ·obtain ⟨hkb, hbl⟩ := hv4 hst
    rw [hst] at x1
    rw [hbl] at x4
    simp only [w1, w2, ↓reduceIte, zA, zE, zF, x1, x4, x5, x6, bneq hkb, h9, h10, h90, k1, q3, lr, beq_ff hrun, aeq, beq_self_eq_true]
    rw [small (by omega), R_lp]
    refine fin _ A hA0 ?_ ?_ ?_ ?_ ?_ ?_ ?_ ?_ ?_ <;> simp only [w1, ↓reduceIte, zA, h9, h10, h88, h89, h1, h5, h6, h7, hb, hs]
end

/-- From a stand as wanted to what the law wants of each view. -/
theorem vok_of {st : PStand} (hG : GS st) {k : Nat} {c : List Nat} (hrun : st.running = k) (hch : Chn (st.tasks.map fun v => (v.state, v.waiter)) k c) {i : Nat} {v : PView} {b : Bool} (hv : st.tasks[i]? = some v) (hb : (marks (List.replicate st.tasks.length false) (k :: c))[i]? = some b) : VOK st.running i v b := by
 have hlt : i < st.tasks.length := (List.getElem?_eq_some_iff.1 hv).1
 rw [marks_get (b := false) (by rw [List.getElem?_replicate, if_pos hlt])] at hb
 have hb' := Option.some.inj hb
 obtain ⟨q1, q2, q3⟩ := hch.st i v.state v.waiter (by rw [List.getElem?_map, hv]; rfl)
 have hnd := hch.nodup
 have hmem : v ∈ st.tasks := List.mem_of_getElem? hv
 refine ⟨fun h4 => ⟨hG.2 v hmem h4, hG.1.done v hmem h4⟩, ?_⟩
 rw [hrun]
 by_cases e : i = k
 ·refine .inl ⟨q1 e, ?_, by omega⟩
  rw [← hb']; simp [e]
 ·by_cases e2 : i ∈ c
  ·refine .inr (.inl ⟨q2 e2, ?_, by omega⟩)
   rw [← hb']; simp [e2]
  ·have hn : i ∉ k :: c := by simp [e, e2]
   obtain ⟨z1, z2⟩ := q3 hn
   refine .inr (.inr ⟨z1, ?_, z2, by omega⟩)
   rw [← hb']; simp [e, e2]

theorem tail11 {hi n9 : Nat} {μ : Mem} {sc : Cell} {gs : Nat → Cell} {st : PStand} {fr : Fr} {v1 v5 v6 v7 : AV} (hG : GS st) (h60 : st.tasks.length ≤ 60) (hS : Rd hi μ 7 sc st.tasks.length (cat (vrow gs) 0 st.tasks)) (hh : hi ≤ μ.next) (hn9 : n9 < μ.next)
  (l1 : μ.ld none n9 1 = some (.c (.int .i64 st.running))) (l2 : μ.ld none n9 2 = some (.c sc)) (h9 : fr 9 = pt n9 0) (h1 : fr 1 = v1) (h5 : fr 5 = v5) (h6 : fr 6 = v6) (h7 : fr 7 = v7) {Q : Fr → Mem → Prop} {s : List It}
  (hend : ∀ fr' μ', Same μ.next μ μ' → fr' 1 = v1 → fr' 5 = v5 → fr' 6 = v6 → fr' 7 = v7 → R s fr' μ' Q) : R (.c t11 :: s) fr μ Q := by
 obtain ⟨k, c, hrun, hch⟩ := hG.1.chain
 have hway := hch.ch.way
 obtain ⟨w0, hw0⟩ := hch.get
 have hpos : 0 < st.tasks.length := by
  have := (List.getElem?_eq_some_iff.1 hw0).1
  simp at this; omega
 obtain ⟨sa, scap, hs⟩ := hS.slc
 have em : amks [.bool false] 1 (.c (.int .i64 (st.tasks.length : Int))) (.c (.int .i64 (st.tasks.length : Int))) μ = some (.c (.slc (some (μ.next, 0)) st.tasks.length st.tasks.length), μ.new (cat bcell 0 (List.replicate st.tasks.length false)) 1) := by
  unfold amks; simp only; rw [if_pos ⟨by omega, trivial, by unfold most; omega, by unfold most; omega⟩, bool_rep]; simp
 have l2s := l2
 rw [hs] at l2s
 have hA : Same μ.next μ (μ.new (cat bcell 0 (List.replicate st.tasks.length false)) 1) := Same.tmp (Nat.le_refl _)
 have l1A := ldo l1 hA hn9
 have l2A := ldo l2 hA hn9
 have hW0 : Has (Lay.put ⟨fun _ => 0, fun _ => false, fun _ => 0⟩ () μ.next st.tasks.length) (Con.upd (fun _ => none) () (1, cat bcell 0 (List.replicate st.tasks.length false))) μ.next (μ.new (cat bcell 0 (List.replicate st.tasks.length false)) 1) :=
  (Has.start (fun _ => rfl)).new (Nat.le_refl _) (by rw [if_neg (by decide), cat_length bcell_len]; simp)
 have hSA := hS.same hA hh
 simp only [rI, t11]
 simp only [w1, w2, ↓reduceIte, zA, h9, l2s, em, l1A]
 generalize μ.new (cat bcell 0 (List.replicate st.tasks.length false)) 1 = A at *
 have hnA := hA.2
 refine busyLoop (lo := μ.next) (μ0 := A) (v1 := v1) (v5 := v5) (v6 := v6) (v7 := v7) hSA hh hn9 l2A ⟨hpos, h60⟩ (k :: c) st.running (List.replicate st.tasks.length false) _ _ A (by rw [hrun]; exact hway) hW0 (by simp only [Con.upd, if_true]) (by simp) Same.refl ?_ ?_ ?_ ?_ ?_ ?_ ?_ ?_
 ·simp only [w1, ↓reduceIte, zA, h9]
 ·simp only [w1, ↓reduceIte, zA]; rfl
 ·simp only [w1, ↓reduceIte]
 ·simp only [w1, ↓reduceIte, zA, h1]
 ·simp only [w1, ↓reduceIte, zA, h5]
 ·simp only [w1, ↓reduceIte, zA, h6]
 ·simp only [w1, ↓reduceIte, zA, h7]
 ·intro fr2 μ2 C2 hH2 hC2 hs2 g9 g10 g1 g5 g6 g7
  have hn2 : μ.next ≤ μ2.next := Nat.le_trans hnA hs2.2
  have l1B := ldo l1A hs2 hn9
  have l2B := ldo l2A hs2 hn9
  have l2C := l2B
  rw [hs] at l2C
  have hSB := (hSA.same hs2 hh).mono (hi' := μ2.next) (by omega)
  have hlm : (marks (List.replicate st.tasks.length false) (k :: c)).length = st.tasks.length := by rw [marks_len]; simp
  have hBB := hH2.rd hC2 (n := (marks (List.replicate st.tasks.length false) (k :: c)).length) (by rw [cat_length bcell_len]) (by omega)
  have hsc : (Lay.put (⟨fun _ => 0, fun _ => false, fun _ => 0⟩ : Lay Unit) () μ.next st.tasks.length).sc () (marks (List.replicate st.tasks.length false) (k :: c)).length = (Lay.put (⟨fun _ => 0, fun _ => false, fun _ => 0⟩ : Lay Unit) () μ.next st.tasks.length).sc () st.tasks.length := by rw [hlm]
  rw [hsc] at hBB
  simp only [w1, w2, ↓reduceIte, g9, l2C]
  refine viewLoop (hi := μ2.next) (n9 := n9) (v1 := v1) (v5 := v5) (v6 := v6) (v7 := v7) hSB hBB hlm (Nat.le_refl _) (by omega) l1B h60 (fun i v b hv hb => vok_of hG hrun hch hv hb) st.tasks.length 0 _ μ2 (by omega) Same.refl ?_ ?_ ?_ ?_ ?_ ?_ ?_ ?_ ?_ ?_
  ·simp only [w1, ↓reduceIte, zA, g9]
  ·simp only [w1, ↓reduceIte, zA, g10]
  ·simp only [w1, ↓reduceIte, zA, hs]
  ·simp only [w1, ↓reduceIte, zA]
  ·simp only [w1, ↓reduceIte]; rfl
  ·simp only [w1, ↓reduceIte, zA, g1]
  ·simp only [w1, ↓reduceIte, zA, g5]
  ·simp only [w1, ↓reduceIte, zA, g6]
  ·simp only [w1, ↓reduceIte, zA, g7]
  ·intro fr3 μ3 hs3 k1 k5 k6 k7
   exact hend _ μ3 (hA.trans (hs2.trans (hs3.mono (by omega)))) k1 k5 k6 k7

theorem outer11 {hi n5 n6 : Nat} {μ0 : Mem} {c1 x rc : Cell} {p : PPlan} {b1 : List Int} {r : PReport} {e : PStand} (hP : PlanR hi μ0 x p) (hR1 : Rd hi μ0 1 c1 b1.length (cat brow 0 b1)) (r1 : ∀ y ∈ b1, 0 ≤ y ∧ y ≤ 255) (hh : hi ≤ μ0.next) (hn5 : n5 < μ0.next) (hn6 : n6 < μ0.next)
  (lX : μ0.ld (some 1) n5 0 = some (.agg [x])) (lc : μ0.ld none n6 0 = some (.c (.int .i64 r.code))) (lr : μ0.ld none n6 1 = some (.c rc)) (hrc : ∃ a cap, rc = .slc a r.recs.length cap) (hlen : r.recs.length ≤ 600000) (he60 : e.tasks.length ≤ 60)
  (h30 : ∀ {μ : Mem} {hi : Nat} {c : Cell}, PlanR hi μ c p → hi ≤ μ.next → Ret 30 [.agg [c], .c (.int .i64 600)] μ fun v μ' => AnsH SR.std SR.stdr μ.next μ' v e ∧ Same μ.next μ μ')
  (h42 : ∀ {μ : Mem} {hi : Nat} {c : Cell}, PlanR hi μ c p → hi ≤ μ.next → Ret 42 [.agg [c], .c (.int .i64 600)] μ fun v μ' => StandV μ'.next μ' v e ∧ Same μ.next μ μ')
  (heG : r.code = 2 → GS e)
  (hall : ∀ k : Nat, k ≤ r.recs.length → ∃ s : PStand, s.tasks.length ≤ 60 ∧
   (∀ {μ : Mem} {hi : Nat} {c : Cell}, PlanR hi μ c p → hi ≤ μ.next → Ret 39 [.agg [c], .c (.int .i64 600), .c (.int .i64 k)] μ fun v μ' => AnsH IR.std IR.stdr μ.next μ' v s ∧ Same μ.next μ μ') ∧
   (∀ {μ : Mem} {hi : Nat} {c : Cell}, PlanR hi μ c p → hi ≤ μ.next → Ret 41 [.agg [c], .c (.int .i64 600), .c (.int .i64 k)] μ fun v μ' => StandV μ'.next μ' v s ∧ Same μ.next μ μ') ∧
   (k < r.recs.length → GS s) ∧ (k = r.recs.length → s.ok = false)) {Q : Fr → Mem → Prop} {s : List It} :
 ∀ (k i : Nat) (fr : Fr) (μ : Mem), i + k = 5 → Same μ0.next μ0 μ → fr 1 = .c c1 → fr 5 = pt n5 0 → fr 6 = pt n6 0 → fr 7 = .c (.int .i64 i) → (∀ fr' μ', R s fr' μ' Q) → R (.c (.loop b11_2) :: .blk 0 :: s) fr μ Q := by
 obtain ⟨ra, rcap, hrc⟩ := hrc
 intro k
 induction k with
 | zero =>
  intro i fr μ hk hs h1 h5 h6 h7 hend
  rw [R_loop]
  simp only [rI, b11_2]
  simp only [w1, w2, ↓reduceIte, h7]
  rw [decide_eq_false (by omega)]
  simp only [w1]
  rw [R_exit rfl]
  exact hend _ _
 | succ k ih =>
  intro i fr μ hk hs h1 h5 h6 h7 hend
  have lr1 := ldo lr hs hn6
  have lc1 := ldo lc hs hn6
  have lX1 := ldo lX hs hn5
  have hB := hR1.same hs hh
  have hP1 := hP.same hs hh
  have n01 := hs.2
  have lr1' := lr1
  rw [hrc] at lr1
  have hw42 : IntKind.i64.wrap ((r.recs.length : Int) + 1) = ((r.recs.length + 1 : Nat) : Int) := by rw [small (by omega)]; omega
  have hw35 : IntKind.i64.wrap ((i : Int) + 5) = ((i + 5 : Nat) : Int) := by rw [small (by omega)]; omega
  rw [R_loop]
  simp only [rI, b11_2]
  simp only [w1, w2, ↓reduceIte, h7]
  rw [decide_eq_true (by omega)]
  simp only [w1, w2, ↓reduceIte, zA, h1, h6, h7, lr1, hw42, hw35]
  refine R_callre (l := [.c c1, .c (.int .i64 (i : Int))]) (by first | rfl | simp only [w1, w2, zH, zI, ↓reduceIte, zA, zB, zC, zD, zE, zF, zG]) (wByte_ok hB r1 i) ?_
  rintro v μ' ⟨⟨y0, rfl, hy0⟩, hμ'⟩
  subst hμ'
  refine ⟨by simp only [List.all_cons, List.all_nil, Bool.and_true, Re.holds, w1, ↓reduceIte, zA, lr1, beq_self_eq_true], ?_⟩
  refine R_callre (l := [.c c1, .c (.int .i64 ((i + 5 : Nat) : Int))]) (by first | rfl | simp only [w1, w2, zH, zI, ↓reduceIte, zA, zB, zC, zD, zE, zF, zG]) (wByte_ok hB r1 (i + 5)) ?_
  rintro v μ'' ⟨⟨y1, rfl, hy1⟩, hμ'⟩
  subst hμ'
  refine ⟨by simp only [List.all_cons, List.all_nil, Bool.and_true, Re.holds, w1, ↓reduceIte, zA, lr1, beq_self_eq_true], ?_⟩
  simp only [w1, w2, ↓reduceIte, zA]
  rw [small (n := 256 * y1) (by omega), small (n := y0 + 256 * y1) (by omega), vbin_rem (show ((r.recs.length + 1 : Nat) : Int) ≠ 0 by omega)]
  have htl : 0 ≤ (y0 + 256 * y1).tmod ((r.recs.length + 1 : Nat) : Int) ∧ (y0 + 256 * y1).tmod ((r.recs.length + 1 : Nat) : Int) < ((r.recs.length + 1 : Nat) : Int) := ⟨Int.tmod_nonneg _ (by omega), Int.tmod_lt_of_pos _ (by omega)⟩
  generalize (y0 + 256 * y1).tmod ((r.recs.length + 1 : Nat) : Int) = tm at htl
  obtain ⟨kn, rfl⟩ : ∃ n : Nat, tm = n := ⟨tm.toNat, by omega⟩
  obtain ⟨st, s60, h39, h41, hGs, hno⟩ := hall kn (by omega)
  simp only [w1, w2, h5, lX1]
  refine R_calls (l := [.agg [x], .c (.int .i64 600), .c (.int .i64 kn)]) (by first | rfl | simp only [w1, w2, zH, zI, ↓reduceIte, zA, zB, zC, zD, zE, zF, zG]) (h39 hP1 (by omega)) ?_
  rintro _ μ1 ⟨⟨L, C, hSt, rfl⟩, hs1⟩
  have n1 := hs1.2
  have e33 : ∀ (a : Bool) (b : Int) (q : Cell), ([.bool a, .int .i64 b, q] : List Cell).length = 3 := fun _ _ _ => rfl
  have s3 := new_st0 (μ := μ1) (cs := [.bool false, .int .i64 0, .slc none 0 0]) (x := [.bool st.ok, .int .i64 st.running, L.sc IR.std st.tasks.length]) (e := 0) rfl
  have hA : Same μ1.next μ1 (μ1.new [.bool st.ok, .int .i64 st.running, L.sc IR.std st.tasks.length] 0) := Same.tmp (Nat.le_refl _)
  have nA : (μ1.new [.bool st.ok, .int .i64 st.running, L.sc IR.std st.tasks.length] 0).next = μ1.next + 1 := rfl
  have h02 := hs.trans ((hs1.trans (hA.mono n1)).mono n01)
  have lX2 := ldo lX h02 hn5
  have l3 : (μ1.new [.bool st.ok, .int .i64 st.running, L.sc IR.std st.tasks.length] 0).ld (some 3) μ1.next 0 = some (.agg [.bool st.ok, .int .i64 st.running, L.sc IR.std st.tasks.length]) := by rw [Mem.new_ld, if_pos rfl]; rfl
  have lf : ∀ o y, [Cell.bool st.ok, .int .i64 st.running, L.sc IR.std st.tasks.length][o]? = some y → (μ1.new [.bool st.ok, .int .i64 st.running, L.sc IR.std st.tasks.length] 0).ld none μ1.next o = some (.c y) := fun o y e => new_ld0 e
  have hSt2 : StandH IR.std IR.stdr μ''.next (μ1.new [.bool st.ok, .int .i64 st.running, L.sc IR.std st.tasks.length] 0) L C st.tasks := ⟨hSt.has.tmp, hSt.rows, hSt.each⟩
  have st2 : ∀ q : Cell, (μ1.new [.bool st.ok, .int .i64 st.running, L.sc IR.std st.tasks.length] 0).st μ1.next 0 [.bool e.ok, .int .i64 e.running, q] = some (μ1.new [.bool e.ok, .int .i64 e.running, q] 0) := fun q => new_st0 rfl
  simp only [w1, w2, zH, zI, ↓reduceIte, zA, e33, s3, h5, l3, lX2]
  generalize μ1.new [.bool st.ok, .int .i64 st.running, L.sc IR.std st.tasks.length] 0 = μ2 at *
  have hV2 : StandV μ2.next μ2 (.agg [.bool st.ok, .int .i64 st.running, L.sc IR.std st.tasks.length]) st := hSt2.v
  have n2 := h02.2
  refine R_callre (l := [.agg [x], .c (.int .i64 600), .c (.int .i64 kn)]) (by first | rfl | simp only [w1, w2, zH, zI, ↓reduceIte, zA, zB, zC, zD, zE, zF, zG]) (h41 (hP.same h02 hh) (by omega)) ?_
  rintro vs μ3 ⟨hV3, hs3⟩
  have n3 := hs3.2
  refine ⟨by simp only [List.all_cons, List.all_nil, Bool.and_true, Re.holds, w1, ↓reduceIte, zA, ldo l3 hs3 (by omega), beq_self_eq_true], ?_⟩
  simp only [w1]
  refine R_calls (l := [.agg [.bool st.ok, .int .i64 st.running, L.sc IR.std st.tasks.length], vs]) (by first | rfl | simp only [w1, w2, zH, zI, ↓reduceIte, zA, zB, zC, zD, zE, zF, zG]) (wStand_ok ((hV2.same hs3 (Nat.le_refl _)).mono (hi' := μ3.next) n3) hV3 (Nat.le_refl _) (by omega) (fun v hv => by
   obtain ⟨j, hj⟩ := List.getElem?_of_mem hv
   rw [(hSt2.each j v hj).1]; omega)) ?_
  rintro v μ4 ⟨rfl, hs4⟩
  have h24 : Same μ2.next μ2 μ4 := hs3.trans (hs4.mono n3)
  have h04 := h02.trans (h24.mono n2)
  have n4 := h24.2
  have lr4 := ldo lr h04 hn6
  rw [hrc] at lr4
  have g0 := ldo (lf 0 _ rfl) h24 (by omega)
  have g1 := ldo (lf 1 _ rfl) h24 (by omega)
  have g2 := ldo (lf 2 _ rfl) h24 (by omega)
  have lX4 := ldo lX h04 hn5
  have lc4 := ldo lc h04 hn6
  simp only [w1, w2, ↓reduceIte, zA, h6, lr4]
  by_cases hkl : kn = r.recs.length
  ·have hk1 : ((kn : Int) == (r.recs.length : Int)) = true := beq_tt (by omega)
   rw [hno hkl] at g0
   simp only [w1, w2, ↓reduceIte, zA, hk1, g0, h5, lX4]
   refine R_calls (l := [.agg [x], .c (.int .i64 600)]) (by first | rfl | simp only [w1, w2, zH, zI, ↓reduceIte, zA, zB, zC, zD, zE, zF, zG]) (h30 (hP.same h04 hh) (by have := h04.2; omega)) ?_
   rintro _ μ5 ⟨⟨L', C', hE, rfl⟩, hs5⟩
   have n5' := hs5.2
   have h25 : Same μ2.next μ2 μ5 := h24.trans (hs5.mono n4)
   obtain ⟨μ6, e6, hs6, n6', o6⟩ := h25.st (i := μ1.next) (by omega) (st2 (L'.sc SR.std e.tasks.length))
   have hE6 : StandH SR.std SR.stdr μ4.next μ6 L' C' e.tasks := ⟨hE.has.frame (by rw [n6']; exact Nat.le_refl _) fun y hy => o6 _ (by have := hE.has.ge y hy; omega), hE.rows, hE.each⟩
   have hVE : StandV μ6.next μ6 (.agg [.bool e.ok, .int .i64 e.running, L'.sc SR.std e.tasks.length]) e := hE6.v
   have hAe : Same μ1.next μ1 (μ1.new [.bool e.ok, .int .i64 e.running, L'.sc SR.std e.tasks.length] 0) := Same.tmp (Nat.le_refl _)
   have h06 : Same μ0.next μ0 μ6 := hs.trans ((hs1.trans ((hAe.trans (hs6.mono (by omega))).mono n1)).mono n01)
   have m6 : μ1.next < μ6.next := by have := hs6.2; omega
   have k3 : μ6.ld (some 3) μ1.next 0 = some (.agg [.bool e.ok, .int .i64 e.running, L'.sc SR.std e.tasks.length]) := ldo (by rw [Mem.new_ld, if_pos rfl]; rfl) hs6 (by omega)
   have kf : ∀ o y, [Cell.bool e.ok, .int .i64 e.running, L'.sc SR.std e.tasks.length][o]? = some y → μ6.ld none μ1.next o = some (.c y) := fun o y e => ldo (new_ld0 e) hs6 (by omega)
   have lX6 := ldo lX h06 hn5
   simp only [w1, w2, zH, zI, ↓reduceIte, zA, h5, e33, e6, k3, lX6]
   refine R_callre (l := [.agg [x], .c (.int .i64 600)]) (by first | rfl | simp only [w1, w2, zH, zI, ↓reduceIte, zA, zB, zC, zD, zE, zF, zG]) (h42 (hP.same h06 hh) (by have := h06.2; omega)) ?_
   rintro vs' μ7 ⟨hV7, hs7⟩
   have n7 := hs7.2
   refine ⟨by simp only [List.all_cons, List.all_nil, Bool.and_true, Re.holds, w1, ↓reduceIte, zA, ldo k3 hs7 (by omega), beq_self_eq_true], ?_⟩
   simp only [w1]
   refine R_calls (l := [.agg [.bool e.ok, .int .i64 e.running, L'.sc SR.std e.tasks.length], vs']) (by first | rfl | simp only [w1, w2, zH, zI, ↓reduceIte, zA, zB, zC, zD, zE, zF, zG]) (wStand_ok ((hVE.same hs7 (Nat.le_refl _)).mono (hi' := μ7.next) n7) hV7 (Nat.le_refl _) (by omega) (fun v hv => by
    obtain ⟨j, hj⟩ := List.getElem?_of_mem hv
    rw [(hE6.each j v hj).1]; omega)) ?_
   rintro v μ8 ⟨rfl, hs8⟩
   have h68 : Same μ6.next μ6 μ8 := hs7.trans (hs8.mono n7)
   have h08 := h06.trans (h68.mono h06.2)
   have lc8 := ldo lc h08 hn6
   simp only [w1, w2, ↓reduceIte, zA, h6, lc8]
   by_cases hcd : r.code = 2
   ·simp only [w1, bneq hcd]
    have hSe : Rd μ6.next μ8 7 (L'.sc SR.std e.tasks.length) e.tasks.length (cat (vrow fun i => L'.sc (SR.stdr i) 4) 0 e.tasks) := (hE6.has.rd hE6.rows (n := e.tasks.length) (by rw [cat_length (vrow_len fun i => L'.sc (SR.stdr i) 4)]) (by omega)).same h68 (Nat.le_refl _)
    refine tail11 (n9 := μ1.next) (v1 := .c c1) (v5 := pt n5 0) (v6 := pt n6 0) (v7 := .c (.int .i64 i)) (heG hcd) he60 hSe h68.2 (by have := h68.2; omega) (ldo (kf 1 _ rfl) h68 m6) (ldo (kf 2 _ rfl) h68 m6) ?_ ?_ ?_ ?_ ?_ ?_
    ·simp only [w1, ↓reduceIte, zA]
    ·simp only [w1, ↓reduceIte, zA, h1]
    ·simp only [w1, ↓reduceIte, zA, h5]
    ·simp only [w1, ↓reduceIte, zA, h6]
    ·simp only [w1, ↓reduceIte, zA, h7]
    ·intro fr' μ' hs' q1 q5 q6 q7
     simp only [w1, w2, ↓reduceIte, q7]
     rw [small (by omega), R_lp]
     refine ih (i + 1) _ _ (by omega) (h08.trans (hs'.mono h08.2)) ?_ ?_ ?_ ?_ hend
     ·simp only [w1, ↓reduceIte, zA, q1]
     ·simp only [w1, ↓reduceIte, zA, q5]
     ·simp only [w1, ↓reduceIte, zA, q6]
     ·simp only [w1, ↓reduceIte]; rfl
   ·simp only [w1, show (r.code != 2) = true by simpa using hcd]
    rw [R_exit rfl]
    simp only [w1, w2, ↓reduceIte, zA, h7]
    rw [small (by omega), R_lp]
    refine ih (i + 1) _ _ (by omega) h08 ?_ ?_ ?_ ?_ hend
    ·simp only [w1, ↓reduceIte, zA, h1]
    ·simp only [w1, ↓reduceIte, zA, h5]
    ·simp only [w1, ↓reduceIte, zA, h6]
    ·simp only [w1, ↓reduceIte]; rfl
  ·have hk1 : ((kn : Int) == (r.recs.length : Int)) = false := beq_ff (by omega)
   simp only [w1, hk1]
   have hSs : Rd μ2.next μ4 7 (L.sc IR.std st.tasks.length) st.tasks.length (cat (vrow fun i => L.sc (IR.stdr i) 4) 0 st.tasks) := (hSt2.has.rd hSt2.rows (n := st.tasks.length) (by rw [cat_length (vrow_len fun i => L.sc (IR.stdr i) 4)]) (by omega)).same h24 (Nat.le_refl _)
   refine tail11 (n9 := μ1.next) (v1 := .c c1) (v5 := pt n5 0) (v6 := pt n6 0) (v7 := .c (.int .i64 i)) (hGs (by omega)) s60 hSs n4 (by omega) g1 g2 ?_ ?_ ?_ ?_ ?_ ?_
   ·simp only [w1, ↓reduceIte, zA]
   ·simp only [w1, ↓reduceIte, zA, h1]
   ·simp only [w1, ↓reduceIte, zA, h5]
   ·simp only [w1, ↓reduceIte, zA, h6]
   ·simp only [w1, ↓reduceIte, zA, h7]
   ·intro fr' μ' hs' q1 q5 q6 q7
    simp only [w1, w2, ↓reduceIte, q7]
    rw [small (by omega), R_lp]
    refine ih (i + 1) _ _ (by omega) (h04.trans (hs'.mono h04.2)) ?_ ?_ ?_ ?_ hend
    ·simp only [w1, ↓reduceIte, zA, q1]
    ·simp only [w1, ↓reduceIte, zA, q5]
    ·simp only [w1, ↓reduceIte, zA, q6]
    ·simp only [w1, ↓reduceIte]; rfl

theorem law11 {hi : Nat} {μ : Mem} {c0 c1 : Cell} {b0 b1 : List Int} (hR0 : Rd hi μ 1 c0 b0.length (cat brow 0 b0)) (hR1 : Rd hi μ 1 c1 b1.length (cat brow 0 b1)) (hh : hi ≤ μ.next) (hn : μ.next = 2) (r0 : ∀ y ∈ b0, 0 ≤ y ∧ y ≤ 255) (r1 : ∀ y ∈ b1, 0 ≤ y ∧ y ≤ 255) :
 Ret 11 [.c c0, .c c1] μ fun v μ' => v = .c (.bool true) := by
 obtain ⟨a0, k0, e0⟩ := hR0.slc
 obtain ⟨a1, k1, e1⟩ := hR1.slc
 refine Ret_of p11 (by simp [r11]) ?_
 simp only [rI, r11, frOf_2]
 simp only [w1, w2, ↓reduceIte, zA, e0]
 by_cases hl0 : (b0.length : Int) > 1048576
 ·rw [decide_eq_true hl0]
  simp only [w1, w2, ↓reduceIte, zA, m1, m2, aRet, aRes, aRes1]
 rw [decide_eq_false hl0]
 simp only [w1, w2, ↓reduceIte, zA, e1]
 by_cases hl1 : (b1.length : Int) > 1048576
 ·rw [decide_eq_true hl1]
  simp only [w1, w2, ↓reduceIte, m1, m2, aRet, aRes, aRes1]
 rw [decide_eq_false hl1]
 simp only [w1, w2, ↓reduceIte, zA]
 rw [← e0, ← e1]
 refine R_calls (l := [.c c0]) (by first | rfl | simp only [w1, w2, zH, zI, ↓reduceIte, zA, zB, zC, zD, zE, zF, zG, e0]) (drawn_ok (bs := b0) hR0 hh r0) ?_
 rintro v μ1 ⟨x, p, rfl, hP, hL, hs1⟩
 have n1 := hs1.2
 simp only [w1, w2, zH, zI, ↓reduceIte, zA, new_st0 (μ := μ1) (cs := [.slc none 0 0]) (x := [x]) (e := 0) rfl, show ([x] : List Cell).length = 1 from rfl]
 have hs2 : Same μ1.next μ1 (μ1.new [x] 0) := Same.tmp (Nat.le_refl _)
 have n2 : (μ1.new [x] 0).next = μ1.next + 1 := rfl
 have lX : (μ1.new [x] 0).ld (some 1) μ1.next 0 = some (.agg [x]) := by rw [Mem.new_ld, if_pos rfl]; rfl
 have hP2 := hP.same hs2 (Nat.le_refl _)
 generalize μ1.new [x] 0 = μ2 at *
 simp only [w2, lX]
 obtain ⟨r, e, hrl, he60, h37, h30, h42, heG, hall⟩ := stands11 p hL
 refine R_calls (l := [.agg [x], .c (.int .i64 600)]) (by first | rfl | simp only [w1, w2, zH, zI, ↓reduceIte, zA, zB, zC, zD, zE, zF, zG]) (h37 hP2 (by omega)) ?_
 rintro _ μ3 ⟨⟨rc, sc, rfl, v1, v2⟩, hs3⟩
 have n3 := hs3.2
 have e5 : ([.int .i64 r.code, rc, .int .i64 r.num, .int .i64 r.ticks, sc] : List Cell).length = 5 := rfl
 simp only [w1, w2, zH, zI, ↓reduceIte, zA, e5, new_st0 (μ := μ3) (cs := [.int .i64 0, .slc none 0 0, .int .i64 0, .int .i64 0, .slc none 0 0]) (x := [.int .i64 r.code, rc, .int .i64 r.num, .int .i64 r.ticks, sc]) (e := 0) rfl]
 have hs4 : Same μ3.next μ3 (μ3.new [.int .i64 r.code, rc, .int .i64 r.num, .int .i64 r.ticks, sc] 0) := Same.tmp (Nat.le_refl _)
 have n4 : (μ3.new [.int .i64 r.code, rc, .int .i64 r.num, .int .i64 r.ticks, sc] 0).next = μ3.next + 1 := rfl
 have lc4 : (μ3.new [.int .i64 r.code, rc, .int .i64 r.num, .int .i64 r.ticks, sc] 0).ld none μ3.next 0 = some (.c (.int .i64 r.code)) := new_ld0 rfl
 have lr4 : (μ3.new [.int .i64 r.code, rc, .int .i64 r.num, .int .i64 r.ticks, sc] 0).ld none μ3.next 1 = some (.c rc) := new_ld0 rfl
 have lX4 := ldo (ldo lX hs3 (by omega)) hs4 (by omega)
 have hP4 := (hP2.same hs3 (by omega)).same hs4 (by omega)
 have hB4 : Rd hi (μ3.new [.int .i64 r.code, rc, .int .i64 r.num, .int .i64 r.ticks, sc] 0) 1 c1 b1.length (cat brow 0 b1) := hR1.same (hs1.trans ((hs2.mono n1).trans ((hs3.mono (by omega)).trans (hs4.mono (by omega))))) hh
 generalize μ3.new [.int .i64 r.code, rc, .int .i64 r.num, .int .i64 r.ticks, sc] 0 = μ4 at *
 refine outer11 (hi := μ4.next) (n5 := μ1.next) (n6 := μ3.next) (r := r) (e := e) (hP4.mono (by omega)) (hB4.mono (by omega)) r1 (Nat.le_refl _) (by omega) (by omega) lX4 lc4 lr4 v1.slc hrl he60 h30 h42 heG hall 5 0 _ μ4 (by omega) Same.refl ?_ ?_ ?_ ?_ ?_
 ·simp only [w1, ↓reduceIte, zA]
 ·simp only [w1, ↓reduceIte, zA]
 ·simp only [w1, ↓reduceIte, zA]
 ·simp only [w1, ↓reduceIte]; rfl
 ·intro fr' μ'
  simp only [w1, w2, ↓reduceIte, aRet, aRes, aRes1]
  first | exact ⟨_, rfl, rfl⟩ | trivial | rfl
end Go.Proofs.Ytibmnlijoeppaaa

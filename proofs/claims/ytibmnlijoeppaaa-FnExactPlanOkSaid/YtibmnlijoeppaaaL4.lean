/-
  The law FnExactPlanOk returns true.
-/
import Derived.Test.YtibmnlijoeppaaaSok
namespace Go.Proofs.Ytibmnlijoeppaaa
set_option linter.unusedSimpArgs false
set_option linter.unusedVariables false

theorem szRows_le : ∀ {p : PPlan} {left : Int}, 0 ≤ szRows p left → ∀ b ∈ p, (b.length : Int) ≤ left
  | [], left, h, b, hb => by cases hb
  | a :: p, left, h, b, hb => by
    simp only [szRows] at h
    split at h
    · omega
    · rcases List.mem_cons.1 hb with rfl | hb
      · omega
      · have := szRows_le h b hb; omega

theorem szP_le {p : PPlan} (h : 0 ≤ szP p 1048576) : p.length ≤ 1048576 ∧ ∀ b ∈ p, b.length ≤ 1048576 := by
  unfold szP at h
  split at h
  · omega
  · refine ⟨by omega, fun b hb => ?_⟩
    have := szRows_le h b hb
    omega

theorem st_new {μ : Mem} {cs x : List Cell} {e : Nat} (h : x.length = cs.length) : (μ.new cs e).st μ.next 0 x = some (μ.new x e) := by
  rw [Mem.new_st, if_pos rfl, stl, if_pos (by omega), wr_all h]

theorem ld_new {μ : Mem} {cs : List Cell} {e n : Nat} (h : n = cs.length) : (μ.new cs e).ld (some n) μ.next 0 = some (.agg cs) := by
  rw [Mem.new_ld, if_pos rfl, ldl_some, h, rd_all]; rfl

theorem flt3_len (x : Int × Int × Int) : (flt3 x).length = 3 := rfl

/-! 4: laws.FnExactPlanOk -/
def r4 : RFun := ⟨28, [.tmp 2],
 (.seq
  (.reg [⟨0, .box (.t 0) 1, some 1, none, []⟩,
    ⟨1, .mv (.k (.bool false)), some 2, none, []⟩])
  (.seq
   (.reg [⟨0, .mv (.k (.int .i64 1048576)), some 3, none, []⟩])
   (.seq
    (.reg [⟨0, .ld (some 1) (.t 1), some 7, none, []⟩,
      ⟨1, .mv (.t 3), some 8, none, []⟩,
      ⟨2, .call 18 [.t 7, .t 8], some 9, none, []⟩,
      ⟨3, .mv (.t 9), some 3, none, []⟩])
    (.seq
     (.seq
      (.reg [⟨0, .mv (.t 3), some 10, none, []⟩,
        ⟨1, .bin .lss (.t 10) (.k (.int .i64 0)), some 11, none, []⟩])
      (.ite (.t 11)
       (.seq
        (.reg [⟨0, .mv (.k (.bool true)), some 2, none, []⟩])
        .ret)
       .skip))
     (.seq
      (.reg [⟨0, .ld (some 1) (.t 1), some 12, none, []⟩,
        ⟨1, .call 20 [.t 12], some 13, none, []⟩,
        ⟨2, .call 19 [.t 13], some 14, none, []⟩,
        ⟨3, .alc [.int .i64 0, .int .i64 0, .int .i64 0], some 4, none, []⟩,
        ⟨4, .st (.t 4) (.t 14) 3, none, none, []⟩])
      (.seq
       (.reg [⟨0, .ld (some 1) (.t 1), some 15, none, []⟩,
         ⟨1, .call 20 [.t 15], some 16, none, []⟩,
         ⟨2, .alc [.slc none 0 0], some 5, none, []⟩,
         ⟨3, .st (.t 5) (.t 16) 1, none, none, []⟩])
       (.seq
        (.reg [⟨0, .ld (some 1) (.t 5), some 17, none, []⟩,
          ⟨1, .call 21 [.t 17], some 18, none, []⟩,
          ⟨2, .alc [.int .i64 0, .int .i64 0, .int .i64 0], some 6, none, []⟩,
          ⟨3, .st (.t 6) (.t 18) 3, none, none, []⟩])
        (.seq
         (.seq
          (.reg [⟨0, .ld (some 3) (.t 6), some 19, none, []⟩,
            ⟨1, .ld (some 3) (.t 4), some 20, none, []⟩,
            ⟨2, .call 22 [.t 19, .t 20], some 21, none, []⟩,
            ⟨3, .nt (.t 21), some 22, none, []⟩])
          (.ite (.t 22)
           (.seq
            (.reg [⟨0, .mv (.k (.bool false)), some 2, none, []⟩])
            .ret)
           .skip))
         (.seq
          (.seq
           (.reg [⟨0, .ld (some 1) (.t 5), some 23, none, []⟩,
             ⟨1, .ld (some 1) (.t 1), some 24, none, []⟩,
             ⟨2, .call 20 [.t 24], some 25, none, [.ld 23 (some 1) (.t 5)]⟩,
             ⟨3, .call 23 [.t 23, .t 25], some 26, none, []⟩,
             ⟨4, .nt (.t 26), some 27, none, []⟩])
           (.ite (.t 27)
            (.seq
             (.reg [⟨0, .mv (.k (.bool false)), some 2, none, []⟩])
             .ret)
            .skip))
          (.seq
           (.reg [⟨0, .mv (.k (.bool true)), some 2, none, []⟩])
           .ret))))))))))⟩
theorem p4 : prog 4 = some r4 := by kernel_rfl



theorem law4 {hi : Nat} {μ : Mem} {c : Cell} {p : PPlan} (hR : PlanR hi μ c p) (hh : hi ≤ μ.next) (hl : Lens p) : Ret 4 [.agg [c]] μ fun v μ' => v = .c (.bool true) := by
  refine Ret_of p4 (by simp [r4]) ?_
  simp only [r4, frOf_1]
  have hA : Same μ.next μ (μ.new [c] 0) := Same.tmp (Nat.le_refl _)
  have hRA := hR.same hA hh
  have lA : (μ.new [c] 0).ld (some 1) μ.next 0 = some (.agg [c]) := ld_new rfl
  simp only [R_g_t, R_g_f, R_g_u, R_seq, R_reg, List.map_cons, List.map_nil, List.cons_append, List.nil_append, R_skip, R_blk, R_endblk, R_ret, R_nil, R_mv, R_nc, R_fa, R_ld, R_st, R_bin, R_nt, R_cv, R_eq, R_pick, R_ias, R_iaa, R_bld, R_bsl, R_alc, R_box, R_mks, R_slc, R_sla, R_ext, R_fld, R_len, R_app, R_mkf, R_ite, Fr.put_some, Fr.put_none, Opd.ev_t, Opd.ev_k, Fr.set_at, Nat.reduceEqDiff, ↓reduceIte, PtrK_p, OptK_some, BoolK_b, IntK_i, SlcK_s, vbin_add, vbin_sub, vbin_mul, vbin_eql, vbin_neq, vbin_lss, vbin_leq, vbin_gtr, vbin_geq, vext_0, vext_1, vext_2, vext_3, vext_4, IteK_true, IteK_false, AV.isTup, AV.cells, List.length_cons, List.length_nil, Nat.reduceAdd, Nat.zero_add, Option.map_some, Option.map_none, true_and, and_true, and_self, Int.reduceLT, Int.reduceLE, Int.reduceNeg, decide_true, decide_false, bne_self_eq_false, beq_self_eq_true, Int.reduceBEq, Int.reduceBNe, cond_true, cond_false, Bool.not_true, Bool.not_false, lA]
  refine R_calls rfl (by simp only [R_g_t, R_g_f, R_g_u, R_seq, R_reg, List.map_cons, List.map_nil, List.cons_append, List.nil_append, R_skip, R_blk, R_endblk, R_ret, R_nil, R_mv, R_nc, R_fa, R_ld, R_st, R_bin, R_nt, R_cv, R_eq, R_pick, R_ias, R_iaa, R_bld, R_bsl, R_alc, R_box, R_mks, R_slc, R_sla, R_ext, R_fld, R_len, R_app, R_mkf, R_ite, Fr.put_some, Fr.put_none, Opd.ev_t, Opd.ev_k, Fr.set_at, Nat.reduceEqDiff, ↓reduceIte, PtrK_p, OptK_some, BoolK_b, IntK_i, SlcK_s, vbin_add, vbin_sub, vbin_mul, vbin_eql, vbin_neq, vbin_lss, vbin_leq, vbin_gtr, vbin_geq, vext_0, vext_1, vext_2, vext_3, vext_4, IteK_true, IteK_false, AV.isTup, AV.cells, List.length_cons, List.length_nil, Nat.reduceAdd, Nat.zero_add, Option.map_some, Option.map_none, true_and, and_true, and_self, Int.reduceLT, Int.reduceLE, Int.reduceNeg, decide_true, decide_false, bne_self_eq_false, beq_self_eq_true, Int.reduceBEq, Int.reduceBNe, cond_true, cond_false, Bool.not_true, Bool.not_false]; exact szPlan_ok hRA (Nat.le_succ_of_le hh) hl (by omega)) ?_
  rintro v μb ⟨rfl, hb⟩
  simp only [Mem.new_next] at hb
  simp only [R_g_t, R_g_f, R_g_u, R_seq, R_reg, List.map_cons, List.map_nil, List.cons_append, List.nil_append, R_skip, R_blk, R_endblk, R_ret, R_nil, R_mv, R_nc, R_fa, R_ld, R_st, R_bin, R_nt, R_cv, R_eq, R_pick, R_ias, R_iaa, R_bld, R_bsl, R_alc, R_box, R_mks, R_slc, R_sla, R_ext, R_fld, R_len, R_app, R_mkf, R_ite, Fr.put_some, Fr.put_none, Opd.ev_t, Opd.ev_k, Fr.set_at, Nat.reduceEqDiff, ↓reduceIte, PtrK_p, OptK_some, BoolK_b, IntK_i, SlcK_s, vbin_add, vbin_sub, vbin_mul, vbin_eql, vbin_neq, vbin_lss, vbin_leq, vbin_gtr, vbin_geq, vext_0, vext_1, vext_2, vext_3, vext_4, IteK_true, IteK_false, AV.isTup, AV.cells, List.length_cons, List.length_nil, Nat.reduceAdd, Nat.zero_add, Option.map_some, Option.map_none, true_and, and_true, and_self, Int.reduceLT, Int.reduceLE, Int.reduceNeg, decide_true, decide_false, bne_self_eq_false, beq_self_eq_true, Int.reduceBEq, Int.reduceBNe, cond_true, cond_false, Bool.not_true, Bool.not_false]
  by_cases hsz : szP p 1048576 < 0
  · rw [decide_eq_true hsz]
    simp only [R_g_t, R_g_f, R_g_u, R_seq, R_reg, List.map_cons, List.map_nil, List.cons_append, List.nil_append, R_skip, R_blk, R_endblk, R_ret, R_nil, R_mv, R_nc, R_fa, R_ld, R_st, R_bin, R_nt, R_cv, R_eq, R_pick, R_ias, R_iaa, R_bld, R_bsl, R_alc, R_box, R_mks, R_slc, R_sla, R_ext, R_fld, R_len, R_app, R_mkf, R_ite, Fr.put_some, Fr.put_none, Opd.ev_t, Opd.ev_k, Fr.set_at, Nat.reduceEqDiff, ↓reduceIte, PtrK_p, OptK_some, BoolK_b, IntK_i, SlcK_s, vbin_add, vbin_sub, vbin_mul, vbin_eql, vbin_neq, vbin_lss, vbin_leq, vbin_gtr, vbin_geq, vext_0, vext_1, vext_2, vext_3, vext_4, IteK_true, IteK_false, AV.isTup, AV.cells, List.length_cons, List.length_nil, Nat.reduceAdd, Nat.zero_add, Option.map_some, Option.map_none, true_and, and_true, and_self, Int.reduceLT, Int.reduceLE, Int.reduceNeg, decide_true, decide_false, bne_self_eq_false, beq_self_eq_true, Int.reduceBEq, Int.reduceBNe, cond_true, cond_false, Bool.not_true, Bool.not_false, exists_eq_left', Mem.new_next, Mem.new_ld, Mem.new_st, ldl_none, ldl_some, stl, wr, rd, List.set_cons_zero, List.set_cons_succ, List.getElem?_cons_zero, List.getElem?_cons_succ, Nat.add_assoc, Nat.add_eq_left, Nat.left_eq_add, Nat.add_left_cancel_iff, aRet, aRes, aRes1, toCells, Nat.reduceLeDiff, Nat.reduceMul, Nat.one_ne_zero, Option.some.injEq, Nat.add_zero]
  rw [decide_eq_false hsz]
  have hl2 := szP_le (p := p) (by omega)
  have hRb := hRA.same hb (by omega)
  have nb := hb.2
  simp only [Mem.new_next] at nb
  have lb := (hb.ld (n := some 1) (i := μ.next) (o := 0) (by omega)).trans lA
  simp only [R_g_t, R_g_f, R_g_u, R_seq, R_reg, List.map_cons, List.map_nil, List.cons_append, List.nil_append, R_skip, R_blk, R_endblk, R_ret, R_nil, R_mv, R_nc, R_fa, R_ld, R_st, R_bin, R_nt, R_cv, R_eq, R_pick, R_ias, R_iaa, R_bld, R_bsl, R_alc, R_box, R_mks, R_slc, R_sla, R_ext, R_fld, R_len, R_app, R_mkf, R_ite, Fr.put_some, Fr.put_none, Opd.ev_t, Opd.ev_k, Fr.set_at, Nat.reduceEqDiff, ↓reduceIte, PtrK_p, OptK_some, BoolK_b, IntK_i, SlcK_s, vbin_add, vbin_sub, vbin_mul, vbin_eql, vbin_neq, vbin_lss, vbin_leq, vbin_gtr, vbin_geq, vext_0, vext_1, vext_2, vext_3, vext_4, IteK_true, IteK_false, AV.isTup, AV.cells, List.length_cons, List.length_nil, Nat.reduceAdd, Nat.zero_add, Option.map_some, Option.map_none, true_and, and_true, and_self, Int.reduceLT, Int.reduceLE, Int.reduceNeg, decide_true, decide_false, bne_self_eq_false, beq_self_eq_true, Int.reduceBEq, Int.reduceBNe, cond_true, cond_false, Bool.not_true, Bool.not_false, lb]
  refine R_calls rfl (by simp only [R_g_t, R_g_f, R_g_u, R_seq, R_reg, List.map_cons, List.map_nil, List.cons_append, List.nil_append, R_skip, R_blk, R_endblk, R_ret, R_nil, R_mv, R_nc, R_fa, R_ld, R_st, R_bin, R_nt, R_cv, R_eq, R_pick, R_ias, R_iaa, R_bld, R_bsl, R_alc, R_box, R_mks, R_slc, R_sla, R_ext, R_fld, R_len, R_app, R_mkf, R_ite, Fr.put_some, Fr.put_none, Opd.ev_t, Opd.ev_k, Fr.set_at, Nat.reduceEqDiff, ↓reduceIte, PtrK_p, OptK_some, BoolK_b, IntK_i, SlcK_s, vbin_add, vbin_sub, vbin_mul, vbin_eql, vbin_neq, vbin_lss, vbin_leq, vbin_gtr, vbin_geq, vext_0, vext_1, vext_2, vext_3, vext_4, IteK_true, IteK_false, AV.isTup, AV.cells, List.length_cons, List.length_nil, Nat.reduceAdd, Nat.zero_add, Option.map_some, Option.map_none, true_and, and_true, and_self, Int.reduceLT, Int.reduceLE, Int.reduceNeg, decide_true, decide_false, bne_self_eq_false, beq_self_eq_true, Int.reduceBEq, Int.reduceBNe, cond_true, cond_false, Bool.not_true, Bool.not_false]; exact toPlan_ok hRb (by omega) hl2) ?_
  rintro v μc ⟨L1, rfl, hL1, hc⟩
  simp only [R_g_t, R_g_f, R_g_u, R_seq, R_reg, List.map_cons, List.map_nil, List.cons_append, List.nil_append, R_skip, R_blk, R_endblk, R_ret, R_nil, R_mv, R_nc, R_fa, R_ld, R_st, R_bin, R_nt, R_cv, R_eq, R_pick, R_ias, R_iaa, R_bld, R_bsl, R_alc, R_box, R_mks, R_slc, R_sla, R_ext, R_fld, R_len, R_app, R_mkf, R_ite, Fr.put_some, Fr.put_none, Opd.ev_t, Opd.ev_k, Fr.set_at, Nat.reduceEqDiff, ↓reduceIte, PtrK_p, OptK_some, BoolK_b, IntK_i, SlcK_s, vbin_add, vbin_sub, vbin_mul, vbin_eql, vbin_neq, vbin_lss, vbin_leq, vbin_gtr, vbin_geq, vext_0, vext_1, vext_2, vext_3, vext_4, IteK_true, IteK_false, AV.isTup, AV.cells, List.length_cons, List.length_nil, Nat.reduceAdd, Nat.zero_add, Option.map_some, Option.map_none, true_and, and_true, and_self, Int.reduceLT, Int.reduceLE, Int.reduceNeg, decide_true, decide_false, bne_self_eq_false, beq_self_eq_true, Int.reduceBEq, Int.reduceBNe, cond_true, cond_false, Bool.not_true, Bool.not_false]
  have hP1 := hL1.planR
  have nc := hc.2
  refine R_calls rfl (by simp only [R_g_t, R_g_f, R_g_u, R_seq, R_reg, List.map_cons, List.map_nil, List.cons_append, List.nil_append, R_skip, R_blk, R_endblk, R_ret, R_nil, R_mv, R_nc, R_fa, R_ld, R_st, R_bin, R_nt, R_cv, R_eq, R_pick, R_ias, R_iaa, R_bld, R_bsl, R_alc, R_box, R_mks, R_slc, R_sla, R_ext, R_fld, R_len, R_app, R_mkf, R_ite, Fr.put_some, Fr.put_none, Opd.ev_t, Opd.ev_k, Fr.set_at, Nat.reduceEqDiff, ↓reduceIte, PtrK_p, OptK_some, BoolK_b, IntK_i, SlcK_s, vbin_add, vbin_sub, vbin_mul, vbin_eql, vbin_neq, vbin_lss, vbin_leq, vbin_gtr, vbin_geq, vext_0, vext_1, vext_2, vext_3, vext_4, IteK_true, IteK_false, AV.isTup, AV.cells, List.length_cons, List.length_nil, Nat.reduceAdd, Nat.zero_add, Option.map_some, Option.map_none, true_and, and_true, and_self, Int.reduceLT, Int.reduceLE, Int.reduceNeg, decide_true, decide_false, bne_self_eq_false, beq_self_eq_true, Int.reduceBEq, Int.reduceBNe, cond_true, cond_false, Bool.not_true, Bool.not_false]; exact sPlanOk_ok hP1 (Nat.le_refl _) hl) ?_
  rintro v μd ⟨rfl, hd⟩
  have nd := hd.2
  have hbd := hc.trans (hd.mono nc)
  have hAd := hb.trans (hbd.mono nb)
  have lD := (hAd.ld (n := some 1) (i := μ.next) (o := 0) (by omega)).trans lA
  have hRd := hRA.same hAd (by omega)
  simp only [R_g_t, R_g_f, R_g_u, R_seq, R_reg, List.map_cons, List.map_nil, List.cons_append, List.nil_append, R_skip, R_blk, R_endblk, R_ret, R_nil, R_mv, R_nc, R_fa, R_ld, R_st, R_bin, R_nt, R_cv, R_eq, R_pick, R_ias, R_iaa, R_bld, R_bsl, R_alc, R_box, R_mks, R_slc, R_sla, R_ext, R_fld, R_len, R_app, R_mkf, R_ite, Fr.put_some, Fr.put_none, Opd.ev_t, Opd.ev_k, Fr.set_at, Nat.reduceEqDiff, ↓reduceIte, PtrK_p, OptK_some, BoolK_b, IntK_i, SlcK_s, vbin_add, vbin_sub, vbin_mul, vbin_eql, vbin_neq, vbin_lss, vbin_leq, vbin_gtr, vbin_geq, vext_0, vext_1, vext_2, vext_3, vext_4, IteK_true, IteK_false, AV.isTup, AV.cells, List.length_cons, List.length_nil, Nat.reduceAdd, Nat.zero_add, Option.map_some, Option.map_none, true_and, and_true, and_self, Int.reduceLT, Int.reduceLE, Int.reduceNeg, decide_true, decide_false, bne_self_eq_false, beq_self_eq_true, Int.reduceBEq, Int.reduceBNe, cond_true, cond_false, Bool.not_true, Bool.not_false, flt3_len, st_new (μ := μd) (cs := [.int .i64 0, .int .i64 0, .int .i64 0]) (x := flt3 (okP p)) (e := 0) rfl]
  have hd1 : Same μd.next μd (μd.new (flt3 (okP p)) 0) := Same.tmp (Nat.le_refl _)
  have lE := (hd1.ld (n := some 1) (i := μ.next) (o := 0) (by omega)).trans lD
  have hRe := hRd.same hd1 (by omega)
  simp only [R_g_t, R_g_f, R_g_u, R_seq, R_reg, List.map_cons, List.map_nil, List.cons_append, List.nil_append, R_skip, R_blk, R_endblk, R_ret, R_nil, R_mv, R_nc, R_fa, R_ld, R_st, R_bin, R_nt, R_cv, R_eq, R_pick, R_ias, R_iaa, R_bld, R_bsl, R_alc, R_box, R_mks, R_slc, R_sla, R_ext, R_fld, R_len, R_app, R_mkf, R_ite, Fr.put_some, Fr.put_none, Opd.ev_t, Opd.ev_k, Fr.set_at, Nat.reduceEqDiff, ↓reduceIte, PtrK_p, OptK_some, BoolK_b, IntK_i, SlcK_s, vbin_add, vbin_sub, vbin_mul, vbin_eql, vbin_neq, vbin_lss, vbin_leq, vbin_gtr, vbin_geq, vext_0, vext_1, vext_2, vext_3, vext_4, IteK_true, IteK_false, AV.isTup, AV.cells, List.length_cons, List.length_nil, Nat.reduceAdd, Nat.zero_add, Option.map_some, Option.map_none, true_and, and_true, and_self, Int.reduceLT, Int.reduceLE, Int.reduceNeg, decide_true, decide_false, bne_self_eq_false, beq_self_eq_true, Int.reduceBEq, Int.reduceBNe, cond_true, cond_false, Bool.not_true, Bool.not_false, lE]
  refine R_calls rfl (by simp only [R_g_t, R_g_f, R_g_u, R_seq, R_reg, List.map_cons, List.map_nil, List.cons_append, List.nil_append, R_skip, R_blk, R_endblk, R_ret, R_nil, R_mv, R_nc, R_fa, R_ld, R_st, R_bin, R_nt, R_cv, R_eq, R_pick, R_ias, R_iaa, R_bld, R_bsl, R_alc, R_box, R_mks, R_slc, R_sla, R_ext, R_fld, R_len, R_app, R_mkf, R_ite, Fr.put_some, Fr.put_none, Opd.ev_t, Opd.ev_k, Fr.set_at, Nat.reduceEqDiff, ↓reduceIte, PtrK_p, OptK_some, BoolK_b, IntK_i, SlcK_s, vbin_add, vbin_sub, vbin_mul, vbin_eql, vbin_neq, vbin_lss, vbin_leq, vbin_gtr, vbin_geq, vext_0, vext_1, vext_2, vext_3, vext_4, IteK_true, IteK_false, AV.isTup, AV.cells, List.length_cons, List.length_nil, Nat.reduceAdd, Nat.zero_add, Option.map_some, Option.map_none, true_and, and_true, and_self, Int.reduceLT, Int.reduceLE, Int.reduceNeg, decide_true, decide_false, bne_self_eq_false, beq_self_eq_true, Int.reduceBEq, Int.reduceBNe, cond_true, cond_false, Bool.not_true, Bool.not_false]; exact toPlan_ok hRe (by simp only [Mem.new_next]; omega) hl2) ?_
  rintro v μe ⟨L2, rfl, hL2, he⟩
  simp only [Mem.new_next] at he hL2
  have ne := he.2
  simp only [Mem.new_next] at ne
  have hP2 := hL2.planR
  simp only [R_g_t, R_g_f, R_g_u, R_seq, R_reg, List.map_cons, List.map_nil, List.cons_append, List.nil_append, R_skip, R_blk, R_endblk, R_ret, R_nil, R_mv, R_nc, R_fa, R_ld, R_st, R_bin, R_nt, R_cv, R_eq, R_pick, R_ias, R_iaa, R_bld, R_bsl, R_alc, R_box, R_mks, R_slc, R_sla, R_ext, R_fld, R_len, R_app, R_mkf, R_ite, Fr.put_some, Fr.put_none, Opd.ev_t, Opd.ev_k, Fr.set_at, Nat.reduceEqDiff, ↓reduceIte, PtrK_p, OptK_some, BoolK_b, IntK_i, SlcK_s, vbin_add, vbin_sub, vbin_mul, vbin_eql, vbin_neq, vbin_lss, vbin_leq, vbin_gtr, vbin_geq, vext_0, vext_1, vext_2, vext_3, vext_4, IteK_true, IteK_false, AV.isTup, AV.cells, List.length_cons, List.length_nil, Nat.reduceAdd, Nat.zero_add, Option.map_some, Option.map_none, true_and, and_true, and_self, Int.reduceLT, Int.reduceLE, Int.reduceNeg, decide_true, decide_false, bne_self_eq_false, beq_self_eq_true, Int.reduceBEq, Int.reduceBNe, cond_true, cond_false, Bool.not_true, Bool.not_false, st_new (μ := μe) (cs := [.slc none 0 0]) (x := [L2.sc .bodies p.length]) (e := 0) rfl]
  have he1 : Same μe.next μe (μe.new [L2.sc .bodies p.length] 0) := Same.tmp (Nat.le_refl _)
  have lX : (μe.new [L2.sc .bodies p.length] 0).ld (some 1) μe.next 0 = some (.agg [L2.sc .bodies p.length]) := ld_new rfl
  simp only [R_g_t, R_g_f, R_g_u, R_seq, R_reg, List.map_cons, List.map_nil, List.cons_append, List.nil_append, R_skip, R_blk, R_endblk, R_ret, R_nil, R_mv, R_nc, R_fa, R_ld, R_st, R_bin, R_nt, R_cv, R_eq, R_pick, R_ias, R_iaa, R_bld, R_bsl, R_alc, R_box, R_mks, R_slc, R_sla, R_ext, R_fld, R_len, R_app, R_mkf, R_ite, Fr.put_some, Fr.put_none, Opd.ev_t, Opd.ev_k, Fr.set_at, Nat.reduceEqDiff, ↓reduceIte, PtrK_p, OptK_some, BoolK_b, IntK_i, SlcK_s, vbin_add, vbin_sub, vbin_mul, vbin_eql, vbin_neq, vbin_lss, vbin_leq, vbin_gtr, vbin_geq, vext_0, vext_1, vext_2, vext_3, vext_4, IteK_true, IteK_false, AV.isTup, AV.cells, List.length_cons, List.length_nil, Nat.reduceAdd, Nat.zero_add, Option.map_some, Option.map_none, true_and, and_true, and_self, Int.reduceLT, Int.reduceLE, Int.reduceNeg, decide_true, decide_false, bne_self_eq_false, beq_self_eq_true, Int.reduceBEq, Int.reduceBNe, cond_true, cond_false, Bool.not_true, Bool.not_false, lX]
  refine R_calls rfl (by simp only [R_g_t, R_g_f, R_g_u, R_seq, R_reg, List.map_cons, List.map_nil, List.cons_append, List.nil_append, R_skip, R_blk, R_endblk, R_ret, R_nil, R_mv, R_nc, R_fa, R_ld, R_st, R_bin, R_nt, R_cv, R_eq, R_pick, R_ias, R_iaa, R_bld, R_bsl, R_alc, R_box, R_mks, R_slc, R_sla, R_ext, R_fld, R_len, R_app, R_mkf, R_ite, Fr.put_some, Fr.put_none, Opd.ev_t, Opd.ev_k, Fr.set_at, Nat.reduceEqDiff, ↓reduceIte, PtrK_p, OptK_some, BoolK_b, IntK_i, SlcK_s, vbin_add, vbin_sub, vbin_mul, vbin_eql, vbin_neq, vbin_lss, vbin_leq, vbin_gtr, vbin_geq, vext_0, vext_1, vext_2, vext_3, vext_4, IteK_true, IteK_false, AV.isTup, AV.cells, List.length_cons, List.length_nil, Nat.reduceAdd, Nat.zero_add, Option.map_some, Option.map_none, true_and, and_true, and_self, Int.reduceLT, Int.reduceLE, Int.reduceNeg, decide_true, decide_false, bne_self_eq_false, beq_self_eq_true, Int.reduceBEq, Int.reduceBNe, cond_true, cond_false, Bool.not_true, Bool.not_false]; exact iPlanOk_ok (hP2.same he1 (Nat.le_refl _)) (by simp only [Mem.new_next]; omega) hl) ?_
  rintro v μf ⟨rfl, hf⟩
  simp only [Mem.new_next] at hf
  have nf := hf.2
  simp only [Mem.new_next] at nf
  simp only [R_g_t, R_g_f, R_g_u, R_seq, R_reg, List.map_cons, List.map_nil, List.cons_append, List.nil_append, R_skip, R_blk, R_endblk, R_ret, R_nil, R_mv, R_nc, R_fa, R_ld, R_st, R_bin, R_nt, R_cv, R_eq, R_pick, R_ias, R_iaa, R_bld, R_bsl, R_alc, R_box, R_mks, R_slc, R_sla, R_ext, R_fld, R_len, R_app, R_mkf, R_ite, Fr.put_some, Fr.put_none, Opd.ev_t, Opd.ev_k, Fr.set_at, Nat.reduceEqDiff, ↓reduceIte, PtrK_p, OptK_some, BoolK_b, IntK_i, SlcK_s, vbin_add, vbin_sub, vbin_mul, vbin_eql, vbin_neq, vbin_lss, vbin_leq, vbin_gtr, vbin_geq, vext_0, vext_1, vext_2, vext_3, vext_4, IteK_true, IteK_false, AV.isTup, AV.cells, List.length_cons, List.length_nil, Nat.reduceAdd, Nat.zero_add, Option.map_some, Option.map_none, true_and, and_true, and_self, Int.reduceLT, Int.reduceLE, Int.reduceNeg, decide_true, decide_false, bne_self_eq_false, beq_self_eq_true, Int.reduceBEq, Int.reduceBNe, cond_true, cond_false, Bool.not_true, Bool.not_false, flt3_len, st_new (μ := μf) (cs := [.int .i64 0, .int .i64 0, .int .i64 0]) (x := flt3 (okP p)) (e := 0) rfl]
  have hf1 : Same μf.next μf (μf.new (flt3 (okP p)) 0) := Same.tmp (Nat.le_refl _)
  have lF : (μf.new (flt3 (okP p)) 0).ld (some 3) μf.next 0 = some (.agg (flt3 (okP p))) := ld_new rfl
  have hdf : Same (μd.next + 1) (μd.new (flt3 (okP p)) 0) (μf.new (flt3 (okP p)) 0) := he.trans ((he1.mono (by omega)).trans ((hf.mono (by omega)).trans (hf1.mono (by omega))))
  have lG := (hdf.ld (n := some 3) (i := μd.next) (o := 0) (by omega)).trans (ld_new rfl)
  simp only [R_g_t, R_g_f, R_g_u, R_seq, R_reg, List.map_cons, List.map_nil, List.cons_append, List.nil_append, R_skip, R_blk, R_endblk, R_ret, R_nil, R_mv, R_nc, R_fa, R_ld, R_st, R_bin, R_nt, R_cv, R_eq, R_pick, R_ias, R_iaa, R_bld, R_bsl, R_alc, R_box, R_mks, R_slc, R_sla, R_ext, R_fld, R_len, R_app, R_mkf, R_ite, Fr.put_some, Fr.put_none, Opd.ev_t, Opd.ev_k, Fr.set_at, Nat.reduceEqDiff, ↓reduceIte, PtrK_p, OptK_some, BoolK_b, IntK_i, SlcK_s, vbin_add, vbin_sub, vbin_mul, vbin_eql, vbin_neq, vbin_lss, vbin_leq, vbin_gtr, vbin_geq, vext_0, vext_1, vext_2, vext_3, vext_4, IteK_true, IteK_false, AV.isTup, AV.cells, List.length_cons, List.length_nil, Nat.reduceAdd, Nat.zero_add, Option.map_some, Option.map_none, true_and, and_true, and_self, Int.reduceLT, Int.reduceLE, Int.reduceNeg, decide_true, decide_false, bne_self_eq_false, beq_self_eq_true, Int.reduceBEq, Int.reduceBNe, cond_true, cond_false, Bool.not_true, Bool.not_false, lF, lG]
  refine R_calls rfl (by simp only [R_g_t, R_g_f, R_g_u, R_seq, R_reg, List.map_cons, List.map_nil, List.cons_append, List.nil_append, R_skip, R_blk, R_endblk, R_ret, R_nil, R_mv, R_nc, R_fa, R_ld, R_st, R_bin, R_nt, R_cv, R_eq, R_pick, R_ias, R_iaa, R_bld, R_bsl, R_alc, R_box, R_mks, R_slc, R_sla, R_ext, R_fld, R_len, R_app, R_mkf, R_ite, Fr.put_some, Fr.put_none, Opd.ev_t, Opd.ev_k, Fr.set_at, Nat.reduceEqDiff, ↓reduceIte, PtrK_p, OptK_some, BoolK_b, IntK_i, SlcK_s, vbin_add, vbin_sub, vbin_mul, vbin_eql, vbin_neq, vbin_lss, vbin_leq, vbin_gtr, vbin_geq, vext_0, vext_1, vext_2, vext_3, vext_4, IteK_true, IteK_false, AV.isTup, AV.cells, List.length_cons, List.length_nil, Nat.reduceAdd, Nat.zero_add, Option.map_some, Option.map_none, true_and, and_true, and_self, Int.reduceLT, Int.reduceLE, Int.reduceNeg, decide_true, decide_false, bne_self_eq_false, beq_self_eq_true, Int.reduceBEq, Int.reduceBNe, cond_true, cond_false, Bool.not_true, Bool.not_false]; exact eqFault_ok _ _ _ _) ?_
  rintro v μg ⟨rfl, hg⟩
  simp only [Mem.new_next] at hg
  have ng := hg.2
  simp only [Mem.new_next] at ng
  have heg : Same (μe.next + 1) (μe.new [L2.sc .bodies p.length] 0) μg := hf.trans ((hf1.mono (by omega)).trans (hg.mono (by omega)))
  have lH := (heg.ld (n := some 1) (i := μe.next) (o := 0) (by omega)).trans lX
  have hAg : Same (μ.next + 1) (μ.new [c] 0) μg := hAd.trans ((hd1.mono (by omega)).trans ((he.mono (by omega)).trans ((he1.mono (by omega)).trans (heg.mono (by omega)))))
  have lI := (hAg.ld (n := some 1) (i := μ.next) (o := 0) (by omega)).trans lA
  have hRg := hRA.same hAg (by omega)
  simp only [R_g_t, R_g_f, R_g_u, R_seq, R_reg, List.map_cons, List.map_nil, List.cons_append, List.nil_append, R_skip, R_blk, R_endblk, R_ret, R_nil, R_mv, R_nc, R_fa, R_ld, R_st, R_bin, R_nt, R_cv, R_eq, R_pick, R_ias, R_iaa, R_bld, R_bsl, R_alc, R_box, R_mks, R_slc, R_sla, R_ext, R_fld, R_len, R_app, R_mkf, R_ite, Fr.put_some, Fr.put_none, Opd.ev_t, Opd.ev_k, Fr.set_at, Nat.reduceEqDiff, ↓reduceIte, PtrK_p, OptK_some, BoolK_b, IntK_i, SlcK_s, vbin_add, vbin_sub, vbin_mul, vbin_eql, vbin_neq, vbin_lss, vbin_leq, vbin_gtr, vbin_geq, vext_0, vext_1, vext_2, vext_3, vext_4, IteK_true, IteK_false, AV.isTup, AV.cells, List.length_cons, List.length_nil, Nat.reduceAdd, Nat.zero_add, Option.map_some, Option.map_none, true_and, and_true, and_self, Int.reduceLT, Int.reduceLE, Int.reduceNeg, decide_true, decide_false, bne_self_eq_false, beq_self_eq_true, Int.reduceBEq, Int.reduceBNe, cond_true, cond_false, Bool.not_true, Bool.not_false, lH, lI]
  refine R_callre rfl (by simp only [R_g_t, R_g_f, R_g_u, R_seq, R_reg, List.map_cons, List.map_nil, List.cons_append, List.nil_append, R_skip, R_blk, R_endblk, R_ret, R_nil, R_mv, R_nc, R_fa, R_ld, R_st, R_bin, R_nt, R_cv, R_eq, R_pick, R_ias, R_iaa, R_bld, R_bsl, R_alc, R_box, R_mks, R_slc, R_sla, R_ext, R_fld, R_len, R_app, R_mkf, R_ite, Fr.put_some, Fr.put_none, Opd.ev_t, Opd.ev_k, Fr.set_at, Nat.reduceEqDiff, ↓reduceIte, PtrK_p, OptK_some, BoolK_b, IntK_i, SlcK_s, vbin_add, vbin_sub, vbin_mul, vbin_eql, vbin_neq, vbin_lss, vbin_leq, vbin_gtr, vbin_geq, vext_0, vext_1, vext_2, vext_3, vext_4, IteK_true, IteK_false, AV.isTup, AV.cells, List.length_cons, List.length_nil, Nat.reduceAdd, Nat.zero_add, Option.map_some, Option.map_none, true_and, and_true, and_self, Int.reduceLT, Int.reduceLE, Int.reduceNeg, decide_true, decide_false, bne_self_eq_false, beq_self_eq_true, Int.reduceBEq, Int.reduceBNe, cond_true, cond_false, Bool.not_true, Bool.not_false]; exact toPlan_ok hRg (by omega) hl2) ?_
  rintro v μh ⟨L3, rfl, hL3, hh'⟩
  have nh := hh'.2
  have lJ := (hh'.ld (n := some 1) (i := μe.next) (o := 0) (by omega)).trans lH
  refine ⟨?_, ?_⟩
  · simp only [List.all_cons, List.all_nil, Bool.and_true, Re.holds, R_g_t, R_g_f, R_g_u, R_seq, R_reg, List.map_cons, List.map_nil, List.cons_append, List.nil_append, R_skip, R_blk, R_endblk, R_ret, R_nil, R_mv, R_nc, R_fa, R_ld, R_st, R_bin, R_nt, R_cv, R_eq, R_pick, R_ias, R_iaa, R_bld, R_bsl, R_alc, R_box, R_mks, R_slc, R_sla, R_ext, R_fld, R_len, R_app, R_mkf, R_ite, Fr.put_some, Fr.put_none, Opd.ev_t, Opd.ev_k, Fr.set_at, Nat.reduceEqDiff, ↓reduceIte, PtrK_p, OptK_some, BoolK_b, IntK_i, SlcK_s, vbin_add, vbin_sub, vbin_mul, vbin_eql, vbin_neq, vbin_lss, vbin_leq, vbin_gtr, vbin_geq, vext_0, vext_1, vext_2, vext_3, vext_4, IteK_true, IteK_false, AV.isTup, AV.cells, List.length_cons, List.length_nil, Nat.reduceAdd, Nat.zero_add, Option.map_some, Option.map_none, true_and, and_true, and_self, Int.reduceLT, Int.reduceLE, Int.reduceNeg, decide_true, decide_false, bne_self_eq_false, beq_self_eq_true, Int.reduceBEq, Int.reduceBNe, cond_true, cond_false, Bool.not_true, Bool.not_false, lJ]
  simp only [R_g_t, R_g_f, R_g_u, R_seq, R_reg, List.map_cons, List.map_nil, List.cons_append, List.nil_append, R_skip, R_blk, R_endblk, R_ret, R_nil, R_mv, R_nc, R_fa, R_ld, R_st, R_bin, R_nt, R_cv, R_eq, R_pick, R_ias, R_iaa, R_bld, R_bsl, R_alc, R_box, R_mks, R_slc, R_sla, R_ext, R_fld, R_len, R_app, R_mkf, R_ite, Fr.put_some, Fr.put_none, Opd.ev_t, Opd.ev_k, Fr.set_at, Nat.reduceEqDiff, ↓reduceIte, PtrK_p, OptK_some, BoolK_b, IntK_i, SlcK_s, vbin_add, vbin_sub, vbin_mul, vbin_eql, vbin_neq, vbin_lss, vbin_leq, vbin_gtr, vbin_geq, vext_0, vext_1, vext_2, vext_3, vext_4, IteK_true, IteK_false, AV.isTup, AV.cells, List.length_cons, List.length_nil, Nat.reduceAdd, Nat.zero_add, Option.map_some, Option.map_none, true_and, and_true, and_self, Int.reduceLT, Int.reduceLE, Int.reduceNeg, decide_true, decide_false, bne_self_eq_false, beq_self_eq_true, Int.reduceBEq, Int.reduceBNe, cond_true, cond_false, Bool.not_true, Bool.not_false]
  refine R_calls rfl (by
    simp only [R_g_t, R_g_f, R_g_u, R_seq, R_reg, List.map_cons, List.map_nil, List.cons_append, List.nil_append, R_skip, R_blk, R_endblk, R_ret, R_nil, R_mv, R_nc, R_fa, R_ld, R_st, R_bin, R_nt, R_cv, R_eq, R_pick, R_ias, R_iaa, R_bld, R_bsl, R_alc, R_box, R_mks, R_slc, R_sla, R_ext, R_fld, R_len, R_app, R_mkf, R_ite, Fr.put_some, Fr.put_none, Opd.ev_t, Opd.ev_k, Fr.set_at, Nat.reduceEqDiff, ↓reduceIte, PtrK_p, OptK_some, BoolK_b, IntK_i, SlcK_s, vbin_add, vbin_sub, vbin_mul, vbin_eql, vbin_neq, vbin_lss, vbin_leq, vbin_gtr, vbin_geq, vext_0, vext_1, vext_2, vext_3, vext_4, IteK_true, IteK_false, AV.isTup, AV.cells, List.length_cons, List.length_nil, Nat.reduceAdd, Nat.zero_add, Option.map_some, Option.map_none, true_and, and_true, and_self, Int.reduceLT, Int.reduceLE, Int.reduceNeg, decide_true, decide_false, bne_self_eq_false, beq_self_eq_true, Int.reduceBEq, Int.reduceBNe, cond_true, cond_false, Bool.not_true, Bool.not_false]
    exact eqPlan_ok (hi := μh.next) (p := p) ((((hP2.same he1 (Nat.le_refl _)).same heg (by omega)).same hh' (by omega)).mono (by omega)) hL3.planR (Nat.le_refl _) hl) ?_
  rintro v μi ⟨rfl, hi'⟩
  simp only [R_g_t, R_g_f, R_g_u, R_seq, R_reg, List.map_cons, List.map_nil, List.cons_append, List.nil_append, R_skip, R_blk, R_endblk, R_ret, R_nil, R_mv, R_nc, R_fa, R_ld, R_st, R_bin, R_nt, R_cv, R_eq, R_pick, R_ias, R_iaa, R_bld, R_bsl, R_alc, R_box, R_mks, R_slc, R_sla, R_ext, R_fld, R_len, R_app, R_mkf, R_ite, Fr.put_some, Fr.put_none, Opd.ev_t, Opd.ev_k, Fr.set_at, Nat.reduceEqDiff, ↓reduceIte, PtrK_p, OptK_some, BoolK_b, IntK_i, SlcK_s, vbin_add, vbin_sub, vbin_mul, vbin_eql, vbin_neq, vbin_lss, vbin_leq, vbin_gtr, vbin_geq, vext_0, vext_1, vext_2, vext_3, vext_4, IteK_true, IteK_false, AV.isTup, AV.cells, List.length_cons, List.length_nil, Nat.reduceAdd, Nat.zero_add, Option.map_some, Option.map_none, true_and, and_true, and_self, Int.reduceLT, Int.reduceLE, Int.reduceNeg, decide_true, decide_false, bne_self_eq_false, beq_self_eq_true, Int.reduceBEq, Int.reduceBNe, cond_true, cond_false, Bool.not_true, Bool.not_false, exists_eq_left', Mem.new_next, Mem.new_ld, Mem.new_st, ldl_none, ldl_some, stl, wr, rd, List.set_cons_zero, List.set_cons_succ, List.getElem?_cons_zero, List.getElem?_cons_succ, Nat.add_assoc, Nat.add_eq_left, Nat.left_eq_add, Nat.add_left_cancel_iff, aRet, aRes, aRes1, toCells, Nat.reduceLeDiff, Nat.reduceMul, Nat.one_ne_zero, Option.some.injEq, Nat.add_zero]
end Go.Proofs.Ytibmnlijoeppaaa

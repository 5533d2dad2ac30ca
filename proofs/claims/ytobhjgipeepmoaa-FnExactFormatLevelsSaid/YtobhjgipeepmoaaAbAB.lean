/- The rules of the abstract run under one name. -/
import Derived.Test.YtobhjgipeepmoaaAbDrw
namespace Go.Ab
set_option linter.defProp false
theorem l_opd_nil (E : Env) : ([] : List Opd).map (Opd.val E) = [] := rfl
theorem l_opd_cons (E : Env) (x : Opd) (l : List Opd) : (x :: l).map (Opd.val E) = x.val E :: l.map (Opd.val E) := rfl
theorem l_len_nil : ([] : List AV).length = 0 := rfl
theorem l_len_cons (a : AV) (l : List AV) : (a :: l).length = l.length + 1 := rfl
theorem l_lenr_nil : ([] : List (List AV)).length = 0 := rfl
theorem l_lenr_cons (a : List AV) (l : List (List AV)) : (a :: l).length = l.length + 1 := rfl
theorem l_lenr_app (a b : List (List AV)) : (a ++ b).length = a.length + b.length := List.length_append
theorem l_con_nil (i : Nat) : ([] : List Nat).contains i = false := rfl
theorem l_con_cons (a i : Nat) (l : List Nat) : (a :: l).contains i = (i == a || l.contains i) := rfl
theorem l_drop0 (l : List AV) : l.drop 0 = l := rfl
theorem l_dropS (a : AV) (l : List AV) (k : Nat) : (a :: l).drop (k + 1) = l.drop k := rfl
theorem l_drop1 (a : AV) (l : List AV) : (a :: l).drop 1 = l := rfl
theorem l_drop2 (a b : AV) (l : List AV) : (a :: b :: l).drop 2 = l := rfl
theorem l_drop3 (a b c : AV) (l : List AV) : (a :: b :: c :: l).drop 3 = l := rfl
theorem l_drop4 (a b c d : AV) (l : List AV) : (a :: b :: c :: d :: l).drop 4 = l := rfl
theorem l_drop5 (a b c d e : AV) (l : List AV) : (a :: b :: c :: d :: e :: l).drop 5 = l := rfl
theorem l_drop6 (a b c d e f : AV) (l : List AV) : (a :: b :: c :: d :: e :: f :: l).drop 6 = l := rfl
theorem l_drop7 (a b c d e f h : AV) (l : List AV) : (a :: b :: c :: d :: e :: f :: h :: l).drop 7 = l := rfl
theorem l_take0 (l : List AV) : l.take 0 = [] := rfl
theorem l_take1 (a : AV) (l : List AV) : (a :: l).take 1 = [a] := rfl
theorem l_take2 (a b : AV) (l : List AV) : (a :: b :: l).take 2 = [a, b] := rfl
theorem l_take3 (a b c : AV) (l : List AV) : (a :: b :: c :: l).take 3 = [a, b, c] := rfl
theorem l_take4 (a b c d : AV) (l : List AV) : (a :: b :: c :: d :: l).take 4 = [a, b, c, d] := rfl
theorem l_get0 (a : AV) (l : List AV) : (a :: l)[0]? = some a := rfl
theorem l_get1 (a b : AV) (l : List AV) : (a :: b :: l)[1]? = some b := rfl
theorem l_get2 (a b c : AV) (l : List AV) : (a :: b :: c :: l)[2]? = some c := rfl
theorem l_get3 (a b c d : AV) (l : List AV) : (a :: b :: c :: d :: l)[3]? = some d := rfl
theorem l_fz_nil : ([] : List AV).map fz = [] := rfl
theorem l_fz_cons (a : AV) (l : List AV) : (a :: l).map fz = fz a :: l.map fz := rfl
theorem l_flat_nil : ([] : List AV).all flat = true := rfl
theorem l_flat_cons (a : AV) (l : List AV) : (a :: l).all flat = (flat a && l.all flat) := rfl
theorem l_plain_nil : ([] : List AV).all plain = true := rfl
theorem l_plain_cons (a : AV) (l : List AV) : (a :: l).all plain = (plain a && l.all plain) := rfl
theorem l_app_nil (l : List AV) : ([] : List AV) ++ l = l := rfl
theorem l_app_cons (a : AV) (l m : List AV) : (a :: l) ++ m = a :: (l ++ m) := rfl
theorem l_app_nil2 (l : List AV) : l ++ ([] : List AV) = l := List.append_nil l
theorem l_appr_nil (l : List (List AV)) : ([] : List (List AV)) ++ l = l := rfl
theorem l_omap (r : List AV) (rs : List (List AV)) : (some rs).map (r :: ·) = some (r :: rs) := rfl
theorem l_setc0 (x : List AV) (cells : List AV) : setCells cells 0 x = x ++ cells.drop x.length := by simp [setCells]
theorem l_setc1 (a : AV) (x : List AV) (cells : List AV) : setCells (a :: cells) 1 x = a :: (x ++ cells.drop x.length) := by simp [setCells, Nat.add_comm 1]
theorem l_setc2 (a b : AV) (x : List AV) (cells : List AV) : setCells (a :: b :: cells) 2 x = a :: b :: (x ++ cells.drop x.length) := by simp [setCells, Nat.add_comm 2]
theorem l_setc3 (a b c : AV) (x : List AV) (cells : List AV) : setCells (a :: b :: c :: cells) 3 x = a :: b :: c :: (x ++ cells.drop x.length) := by simp [setCells, Nat.add_comm 3]
theorem l_setc4 (a b c d : AV) (x : List AV) (cells : List AV) : setCells (a :: b :: c :: d :: cells) 4 x = a :: b :: c :: d :: (x ++ cells.drop x.length) := by simp [setCells, Nat.add_comm 4]
theorem f_bool (b : Bool) : fz (.bool b) = .bool b := rfl
theorem f_int (k : IntKind) (i : Int) : fz (.int k i) = .int k i := rfl
theorem f_str (s : List UInt8) : fz (.str s) = .str s := rfl
theorem f_sl (r : List (List AV)) : fz (.sl r) = .sl r := rfl
theorem f_nil : fz .nilsl = .sl [] := rfl
theorem f_acc (i s : Nat) (r : List (List AV)) : fz (.acc i s r) = .sl r := rfl
theorem f_agg (l : List AV) : fz (.agg l) = .agg l := rfl
theorem f_tup (l : List AV) : fz (.tup l) = .tup l := rfl
theorem f_fptr (l : List AV) : fz (.fptr l) = .fptr l := rfl
theorem f_ptr (i o : Nat) : fz (.ptr i o) = .ptr i o := rfl
theorem f_fn (f : FuncId) (l : List AV) : fz (.fn f l) = .fn f l := rfl
theorem fl_bool (b : Bool) : flat (.bool b) = true := rfl
theorem fl_int (k : IntKind) (i : Int) : flat (.int k i) = true := rfl
theorem fl_str (s : List UInt8) : flat (.str s) = true := rfl
theorem fl_sl (r : List (List AV)) : flat (.sl r) = true := rfl
theorem fl_nil : flat .nilsl = true := rfl
theorem pl_bool (b : Bool) : plain (.bool b) = true := rfl
theorem pl_int (k : IntKind) (i : Int) : plain (.int k i) = true := rfl
theorem pl_str (s : List UInt8) : plain (.str s) = true := rfl
theorem pl_sl (r : List (List AV)) : plain (.sl r) = true := rfl
theorem pl_nil : plain .nilsl = true := rfl
theorem pl_acc (i s : Nat) (r : List (List AV)) : plain (.acc i s r) = true := rfl
theorem pl_ref (i s o l : Nat) : plain (.ref i s o l) = true := rfl
theorem pl_ptr (i o : Nat) : plain (.ptr i o) = true := rfl
theorem pl_fn (f : FuncId) (l : List AV) : plain (.fn f l) = true := rfl
theorem c_agg (l : List AV) : cellsOf (.agg l) = some l := rfl
theorem c_bool (b : Bool) : cellsOf (.bool b) = some [.bool b] := rfl
theorem c_int (k : IntKind) (i : Int) : cellsOf (.int k i) = some [.int k i] := rfl
theorem c_str (s : List UInt8) : cellsOf (.str s) = some [.str s] := rfl
theorem c_sl (r : List (List AV)) : cellsOf (.sl r) = some [.sl r] := rfl
theorem c_nil : cellsOf .nilsl = some [.nilsl] := rfl
theorem c_acc (i s : Nat) (r : List (List AV)) : cellsOf (.acc i s r) = some [.acc i s r] := rfl
theorem c_ref (i s o l : Nat) : cellsOf (.ref i s o l) = some [.ref i s o l] := rfl
theorem c_ptr (i o : Nat) : cellsOf (.ptr i o) = some [.ptr i o] := rfl
theorem c_fn (f : FuncId) (l : List AV) : cellsOf (.fn f l) = some [.fn f l] := rfl
theorem b_int (z : List AV) (off : Nat) (pl : List (Nat × Nat)) (k : IntKind) (i : Int) (xs : List AV) : buildC z ((off, 1) :: pl) (.int k i :: xs) = if off < z.length then buildC (setCells z off [.int k i]) pl xs else none := buildC_one _ _ _ _ _ rfl
theorem b_str (z : List AV) (off : Nat) (pl : List (Nat × Nat)) (s : List UInt8) (xs : List AV) : buildC z ((off, 1) :: pl) (.str s :: xs) = if off < z.length then buildC (setCells z off [.str s]) pl xs else none := buildC_one _ _ _ _ _ rfl
theorem b_bool (z : List AV) (off : Nat) (pl : List (Nat × Nat)) (s : Bool) (xs : List AV) : buildC z ((off, 1) :: pl) (.bool s :: xs) = if off < z.length then buildC (setCells z off [.bool s]) pl xs else none := buildC_one _ _ _ _ _ rfl
theorem b_sl (z : List AV) (off : Nat) (pl : List (Nat × Nat)) (s : List (List AV)) (xs : List AV) : buildC z ((off, 1) :: pl) (.sl s :: xs) = if off < z.length then buildC (setCells z off [.sl s]) pl xs else none := buildC_one _ _ _ _ _ rfl
theorem b_nil (z : List AV) (off : Nat) (pl : List (Nat × Nat)) (xs : List AV) : buildC z ((off, 1) :: pl) (.nilsl :: xs) = if off < z.length then buildC (setCells z off [.nilsl]) pl xs else none := buildC_one _ _ _ _ _ rfl
theorem b_acc (z : List AV) (off : Nat) (pl : List (Nat × Nat)) (i s : Nat) (r : List (List AV)) (xs : List AV) : buildC z ((off, 1) :: pl) (.acc i s r :: xs) = if off < z.length then buildC (setCells z off [.acc i s r]) pl xs else none := buildC_one _ _ _ _ _ rfl
theorem b_ref (z : List AV) (off : Nat) (pl : List (Nat × Nat)) (i s o l : Nat) (xs : List AV) : buildC z ((off, 1) :: pl) (.ref i s o l :: xs) = if off < z.length then buildC (setCells z off [.ref i s o l]) pl xs else none := buildC_one _ _ _ _ _ rfl
theorem r_tmp (P : Program) (E : Env) (H : Heap) (t : Nat) (rs : List ResultVar) : retsL P E H (.tmp t :: rs) = (retsL P E H rs).map (val E t :: ·) := by
  simp only [retsL, ret1]; cases retsL P E H rs <;> rfl
theorem r_nil (P : Program) (E : Env) (H : Heap) : retsL P E H [] = some [] := rfl
theorem l_omap2 (r : AV) (rs : List AV) : (some rs).map (r :: ·) = some (r :: rs) := rfl
theorem rv_one (v : AV) : retV [v] = v := rfl
theorem rv_two (v u : AV) : retV [v, u] = .tup [v, u] := rfl
theorem rv_three (v u x : AV) : retV [v, u, x] = .tup [v, u, x] := rfl
theorem rv_none : retV [] = .tup [] := rfl
theorem fzt_tup (l : List AV) : fzt (.tup l) = .tup (l.map fz) := rfl
theorem fzt_agg (l : List AV) : fzt (.agg l) = .agg (l.map fz) := rfl
theorem fzt_bool (b : Bool) : fzt (.bool b) = .bool b := rfl
theorem fzt_int (k : IntKind) (i : Int) : fzt (.int k i) = .int k i := rfl
theorem fzt_str (s : List UInt8) : fzt (.str s) = .str s := rfl
theorem fzt_sl (r : List (List AV)) : fzt (.sl r) = .sl r := rfl
theorem fzt_nil : fzt .nilsl = .sl [] := rfl
theorem fzt_acc (i s : Nat) (r : List (List AV)) : fzt (.acc i s r) = .sl r := rfl
theorem l_fzt_nil : ([] : List AV).map fzt = [] := rfl
theorem l_fzt_cons (a : AV) (l : List AV) : (a :: l).map fzt = fzt a :: l.map fzt := rfl
theorem p_true_and (p : Prop) : (True ∧ p) = p := by simp
theorem p_and_true (p : Prop) : (p ∧ True) = p := by simp
theorem p_imp_true (p : Prop) : (p → True) = True := by simp
theorem p_tt : (true = true) = True := by simp
theorem p_ff : (false = false) = True := by simp
theorem p_tf : (true = false) = False := by simp
theorem p_ft : (false = true) = False := by simp
theorem p_ffalse (p : Prop) : (False → p) = True := by simp
theorem p_ttrue (p : Prop) : (True → p) = p := by simp
theorem b_or1 (b : Bool) : (true || b) = true := rfl
theorem b_or2 (b : Bool) : (false || b) = b := rfl
theorem b_or3 (b : Bool) : (b || false) = b := by simp
theorem b_or4 (b : Bool) : (b || true) = true := by simp
theorem b_and1 (b : Bool) : (true && b) = b := rfl
theorem b_and2 (b : Bool) : (false && b) = false := rfl
theorem b_and3 (b : Bool) : (b && true) = b := by simp
theorem b_and4 (b : Bool) : (b && false) = false := by simp
theorem b_not1 : (!true) = false := rfl
theorem b_not2 : (!false) = true := rfl
theorem o_some {α : Type} (o : Option α) : o = o := rfl
def AB := And.intro (@tx_mv) <|
  And.intro (@tx_pick) <|
  And.intro (@tx_alloc) <|
  And.intro (@tx_boxF_agg) <|
  And.intro (@tx_boxF_int) <|
  And.intro (@tx_boxF_str) <|
  And.intro (@tx_boxF_bool) <|
  And.intro (@tx_boxF_sl) <|
  And.intro (@tx_boxF_acc) <|
  And.intro (@tx_boxO_agg) <|
  And.intro (@tx_boxO_int) <|
  And.intro (@tx_boxO_str) <|
  And.intro (@tx_boxO_sl) <|
  And.intro (@tx_boxO_acc) <|
  And.intro (@tx_boxO_bool) <|
  And.intro (@tx_build) <|
  And.intro (@tx_bslF) <|
  And.intro (@tx_bslA) <|
  And.intro (@tx_bslO) <|
  And.intro (@tx_ldF) <|
  And.intro (@tx_add) <|
  And.intro (@tx_sub) <|
  And.intro (@tx_mul) <|
  And.intro (@tx_quo) <|
  And.intro (@tx_rem) <|
  And.intro (@tx_lss) <|
  And.intro (@tx_leq) <|
  And.intro (@tx_gtr) <|
  And.intro (@tx_geq) <|
  And.intro (@tx_eql) <|
  And.intro (@tx_neq) <|
  And.intro (@tx_sadd) <|
  And.intro (@tx_seql) <|
  And.intro (@tx_sneq) <|
  And.intro (@tx_binB) <|
  And.intro (@tx_nilsl) <|
  And.intro (@tx_nil_sl) <|
  And.intro (@tx_nil_acc) <|
  And.intro (@tx_eqS) <|
  And.intro (@tx_not) <|
  And.intro (@tx_neg) <|
  And.intro (@tx_cvI) <|
  And.intro (@tx_cvIS) <|
  And.intro (@tx_cvSS) <|
  And.intro (@tx_cvBS) <|
  And.intro (@tx_cvBS_acc) <|
  And.intro (@tx_cvBS_nil) <|
  And.intro (@tx_mkfn) <|
  And.intro (@tx_mksO) <|
  And.intro (@tx_mksA) <|
  And.intro (@tx_slS_n) <|
  And.intro (@tx_slS_l) <|
  And.intro (@tx_slS_h) <|
  And.intro (@tx_slS_lh) <|
  And.intro (@tx_slL_n) <|
  And.intro (@tx_slL_l) <|
  And.intro (@tx_slL_h) <|
  And.intro (@tx_slL_lh) <|
  And.intro (@tx_slA) <|
  And.intro (@tx_fldF) <|
  And.intro (@tx_fldO) <|
  And.intro (@tx_fld1) <|
  And.intro (@tx_fldS) <|
  And.intro (@tx_idxA) <|
  And.intro (@tx_idxA_acc) <|
  And.intro (@tx_idxA_ref) <|
  And.intro (@tx_idxS) <|
  And.intro (@tx_ext) <|
  And.intro (@tx_lenL) <|
  And.intro (@tx_lenA) <|
  And.intro (@tx_lenR) <|
  And.intro (@tx_lenN) <|
  And.intro (@tx_lenS) <|
  And.intro (@tx_app_acc) <|
  And.intro (@tx_app_nil) <|
  And.intro (@tx_min2) <|
  And.intro (@tx_max2) <|
  And.intro (@tx_min3) <|
  And.intro (@txOps_nil) <|
  And.intro (@tgd_und) <|
  And.intro (@tgd_true) <|
  And.intro (@tgd_false) <|
  And.intro (@tgd_tf) <|
  And.intro (@tgd_ft) <|
  And.intro (@tx_ldO) <|
  And.intro (@tx_st) <|
  And.intro (@tx_call2) <|
  And.intro (@txOps_cons) <|
  And.intro (@txOps_gd) <|
  And.intro (@tOK_some) <|
  And.intro (@tOK_ite) <|
  And.intro (@town_some) <|
  And.intro (@tv_bslV) <|
  And.intro (@tv_bslR) <|
  And.intro (@rawRows_nil) <|
  And.intro (@rawRows_agg) <|
  And.intro (@rawRows_int) <|
  And.intro (@rawRows_str) <|
  And.intro (@rawRows_bool) <|
  And.intro (@rawRows_sl) <|
  And.intro (@rawRows_nilsl) <|
  And.intro (@rawRows_acc) <|
  And.intro (@rawRows_ref) <|
  And.intro (@rawRows_vec) <|
  And.intro (@tv_mksV) <|
  And.intro (@tv_mksF) <|
  And.intro (@tv_slR) <|
  And.intro (@tv_slV) <|
  And.intro (@bnds_n) <|
  And.intro (@bnds_l) <|
  And.intro (@bnds_h) <|
  And.intro (@bnds_lh) <|
  And.intro (@tv_idxV) <|
  And.intro (@tv_ldV) <|
  And.intro (@tv_stV) <|
  And.intro (@tv_fldV) <|
  And.intro (@tv_nilV) <|
  And.intro (@tv_lenV) <|
  And.intro (@tv_capN) <|
  And.intro (@tv_appV_sl) <|
  And.intro (@tv_appV_acc) <|
  And.intro (@tv_appV_nil) <|
  And.intro (@tv_appV_ref) <|
  And.intro (@tv_appV_vec) <|
  And.intro (@tv_appN_sl) <|
  And.intro (@tv_appN_acc) <|
  And.intro (@tv_appN_ref) <|
  And.intro (@tv_clr) <|
  And.intro (@tvob_some) <|
  And.intro (@c_vec) <|
  And.intro (@pl_vec) <|
  And.intro (@b_vec) <|
  And.intro (@tv_boxO_vec) <|
  And.intro (@tv_boxO_nil) <|
  And.intro (@tv_boxO_fn) <|
  And.intro (@tv_boxO_ref) <|
  And.intro (@fz_vec) <|
  And.intro (@fzt_vec) <|
  And.intro (@fzt_ref) <|
  And.intro (@fzt_fn) <|
  And.intro (@tD_nil) <|
  And.intro (@tD_cons) <|
  And.intro (@tD_gd) <|
  And.intro (@zipC_nil) <|
  And.intro (@zipC_cons) <|
  And.intro (@xd_mv) <|
  And.intro (@xd_pick) <|
  And.intro (@xd_boxF) <|
  And.intro (@xd_build) <|
  And.intro (@xd_bslF) <|
  And.intro (@xd_bin) <|
  And.intro (@xd_binB) <|
  And.intro (@xd_eqS) <|
  And.intro (@xd_un) <|
  And.intro (@xd_cvI) <|
  And.intro (@xd_cvIS) <|
  And.intro (@xd_cvBS) <|
  And.intro (@xd_cvSS) <|
  And.intro (@xd_mkfn) <|
  And.intro (@xd_slS) <|
  And.intro (@xd_slL_sl) <|
  And.intro (@xd_slL_acc) <|
  And.intro (@xd_slL_ref) <|
  And.intro (@xd_slV) <|
  And.intro (@xd_idxV) <|
  And.intro (@xd_ldV) <|
  And.intro (@xd_fldV) <|
  And.intro (@xd_stV) <|
  And.intro (@xd_appV) <|
  And.intro (@xd_appVN) <|
  And.intro (@xd_bslV) <|
  And.intro (@xd_bslR) <|
  And.intro (@xd_mksV) <|
  And.intro (@xd_fldA) <|
  And.intro (@xd_fldA_o) <|
  And.intro (@xd_fld) <|
  And.intro (@xd_idxA) <|
  And.intro (@xd_idxA_acc) <|
  And.intro (@xd_idxA_ref) <|
  And.intro (@xd_idxS) <|
  And.intro (@xd_ext) <|
  And.intro (@xd_lenS) <|
  And.intro (@xd_lenL) <|
  And.intro (@xd_mnx) <|
  And.intro (@xd_ldF) <|
  And.intro (@xd_ldO) <|
  And.intro (@xd_alloc) <|
  And.intro (@xd_boxO) <|
  And.intro (@xd_bslA) <|
  And.intro (@xd_bslO) <|
  And.intro (@xd_st) <|
  And.intro (@xd_app) <|
  And.intro (@xd_appN) <|
  And.intro (@xd_mksO) <|
  And.intro (@xd_mksA) <|
  And.intro (@xd_call0) <|
  And.intro (@xd_call2) <|
  And.intro (@put_none) <|
  And.intro (@put_some) <|
  And.intro (@del_nil) <|
  And.intro (@del_cons) <|
  And.intro (@val_nil) <|
  And.intro (@val_cons) <|
  And.intro (@keepE_nil) <|
  And.intro (@keepE_cons) <|
  And.intro (@env0_nil) <|
  And.intro (@env0_cons) <|
  And.intro (@opd_t) <|
  And.intro (@opd_k) <|
  And.intro (@hget_cons) <|
  And.intro (@hset_cons) <|
  And.intro (@buildC_nil) <|
  And.intro (@buildC_agg) <|
  And.intro (@rowsOf_nil) <|
  And.intro (@rowsOf_agg) <|
  And.intro (@rowsOf_int) <|
  And.intro (@rowsOf_str) <|
  And.intro (@rowsOf_bool) <|
  And.intro (@rowsOf_sl) <|
  And.intro (@rowsOf_nilsl) <|
  And.intro (@rowsOf_acc) <|
  And.intro (@rowsOk_nil) <|
  And.intro (@rowsOk_cons) <|
  And.intro (@rowsOk_app) <|
  And.intro (@ldc_one) <|
  And.intro (@ldc_agg) <|
  And.intro (@rowsOfSl_sl) <|
  And.intro (@rowsOfSl_acc) <|
  And.intro (@rowsOfSl_nil) <| True.intro
def AL := And.intro (@emem_cons) <| And.intro @Esub_cons <| And.intro @Esub_nil <|And.intro (@l_opd_nil) <|
  And.intro (@l_opd_cons) <|
  And.intro (@l_len_nil) <|
  And.intro (@l_len_cons) <|
  And.intro (@l_lenr_nil) <|
  And.intro (@l_lenr_cons) <|
  And.intro (@l_lenr_app) <|
  And.intro (@l_con_nil) <|
  And.intro (@l_con_cons) <|
  And.intro (@l_drop0) <|
  And.intro (@l_dropS) <|
  And.intro (@l_drop1) <|
  And.intro (@l_drop2) <|
  And.intro (@l_drop3) <|
  And.intro (@l_drop4) <|
  And.intro (@l_drop5) <|
  And.intro (@l_drop6) <|
  And.intro (@l_drop7) <|
  And.intro (@l_take0) <|
  And.intro (@l_take1) <|
  And.intro (@l_take2) <|
  And.intro (@l_take3) <|
  And.intro (@l_take4) <|
  And.intro (@l_get0) <|
  And.intro (@l_get1) <|
  And.intro (@l_get2) <|
  And.intro (@l_get3) <|
  And.intro (@l_fz_nil) <|
  And.intro (@l_fz_cons) <|
  And.intro (@l_flat_nil) <|
  And.intro (@l_flat_cons) <|
  And.intro (@l_plain_nil) <|
  And.intro (@l_plain_cons) <|
  And.intro (@l_app_nil) <|
  And.intro (@l_app_cons) <|
  And.intro (@l_app_nil2) <|
  And.intro (@l_appr_nil) <|
  And.intro (@l_omap) <|
  And.intro (@l_setc0) <|
  And.intro (@l_setc1) <|
  And.intro (@l_setc2) <|
  And.intro (@l_setc3) <|
  And.intro (@l_setc4) <|
  And.intro (@f_bool) <|
  And.intro (@f_int) <|
  And.intro (@f_str) <|
  And.intro (@f_sl) <|
  And.intro (@f_nil) <|
  And.intro (@f_acc) <|
  And.intro (@f_agg) <|
  And.intro (@f_tup) <|
  And.intro (@f_fptr) <|
  And.intro (@f_ptr) <|
  And.intro (@f_fn) <|
  And.intro (@fl_bool) <|
  And.intro (@fl_int) <|
  And.intro (@fl_str) <|
  And.intro (@fl_sl) <|
  And.intro (@fl_nil) <|
  And.intro (@pl_bool) <|
  And.intro (@pl_int) <|
  And.intro (@pl_str) <|
  And.intro (@pl_sl) <|
  And.intro (@pl_nil) <|
  And.intro (@pl_acc) <|
  And.intro (@pl_ref) <|
  And.intro (@pl_ptr) <|
  And.intro (@pl_fn) <|
  And.intro (@c_agg) <|
  And.intro (@c_bool) <|
  And.intro (@c_int) <|
  And.intro (@c_str) <|
  And.intro (@c_sl) <|
  And.intro (@c_nil) <|
  And.intro (@c_acc) <|
  And.intro (@c_ref) <|
  And.intro (@c_ptr) <|
  And.intro (@c_fn) <|
  And.intro (@b_int) <|
  And.intro (@b_str) <|
  And.intro (@b_bool) <|
  And.intro (@b_sl) <|
  And.intro (@b_nil) <|
  And.intro (@b_acc) <|
  And.intro (@b_ref) <|
  And.intro (@r_tmp) <|
  And.intro (@r_nil) <|
  And.intro (@l_omap2) <|
  And.intro (@rv_one) <|
  And.intro (@rv_two) <|
  And.intro (@rv_three) <|
  And.intro (@rv_none) <|
  And.intro (@fzt_tup) <|
  And.intro (@fzt_agg) <|
  And.intro (@fzt_bool) <|
  And.intro (@fzt_int) <|
  And.intro (@fzt_str) <|
  And.intro (@fzt_sl) <|
  And.intro (@fzt_nil) <|
  And.intro (@fzt_acc) <|
  And.intro (@l_fzt_nil) <|
  And.intro (@l_fzt_cons) <|
  And.intro (@p_true_and) <|
  And.intro (@p_and_true) <|
  And.intro (@p_imp_true) <|
  And.intro (@p_tt) <|
  And.intro (@p_ff) <|
  And.intro (@p_tf) <|
  And.intro (@p_ft) <|
  And.intro (@p_ffalse) <|
  And.intro (@p_ttrue) <|
  And.intro (@b_or1) <|
  And.intro (@b_or2) <|
  And.intro (@b_or3) <|
  And.intro (@b_or4) <|
  And.intro (@b_and1) <|
  And.intro (@b_and2) <|
  And.intro (@b_and3) <|
  And.intro (@b_and4) <|
  And.intro (@b_not1) <|
  And.intro (@b_not2) <| True.intro
end Go.Ab

/- Features of sounds, links, marks of steps. Over any program. -/
import Derived.Test.YtobhjgipeepmoaaL03
namespace Go.M01
open Go.Ab Go.Lib01 Go.Lib03
set_option linter.unusedVariables false
set_option linter.unusedSimpArgs false
set_option maxRecDepth 2000

/-- A question of a byte. -/
def CB (f : UInt8 → Bool) (P : Program) (k : Nat) : Prop := ∀ c : UInt8, RunsF P k [.int .u8 (c.toNat : Int)] (.bool (f c))
def isVow (c : UInt8) : Bool := c == 97 || c == 105
def isObs (c : UInt8) : Bool := c == 112 || c == 116 || c == 98 || c == 100
def hasF (c : UInt8) (f : Int) : Bool :=
  if f = 0 then c == 97 || c == 105 else if f = 1 then c == 98 || c == 100 || c == 110 || c == 97 || c == 105 else if f = 2 then c == 110 else if f = 3 then c == 112 || c == 98 else if f = 4 then c == 105 else false
def C_HasFeature (P : Program) (k : Nat) : Prop := ∀ (c : UInt8) (f : Int), RunsF P k [.int .u8 (c.toNat : Int), .int .i64 f] (.bool (hasF c f))
/-- spec.HasFeature -/
def s_HasFeature.x : XCode :=
  (.seq
    (.reg [⟨(some 4), .mv, [.k (.bool false)], none⟩] [0, 1])
    (.seq
      (.seq
        (.reg [⟨(some 5), .mv, [.t 1], none⟩] [0, 5])
        (.block 0
          (.seq
            (.reg [⟨(some 7), (.bin .eql), [.t 5, .k (.int .i64 0)], none⟩,
              ⟨(some 6), .mv, [.t 7], none⟩] [0, 5, 6])
            (.cond (.t 6)
              (.seq
                (.reg (flatNs none (nl [.op (some 8) .mv [.t 0], .op (some 9) (.bin .eql) [.t 8, .k (.int .u8 97)], .op (some 10) .mv [.t 9], .sc 10 false (nl [.op (some 11) .mv [.t 0], .op (some 12) (.bin .eql) [.t 11, .k (.int .u8 105)]]) (.t 12) (some 13), .op (some 4) .mv [.t 13]])) [4])
                .ret)
              (.seq
                (.reg [⟨(some 15), (.bin .eql), [.t 5, .k (.int .i64 1)], none⟩,
                  ⟨(some 14), .mv, [.t 15], none⟩] [0, 5, 14])
                (.cond (.t 14)
                  (.seq
                    (.reg (flatNs none (nl [.op (some 16) .mv [.t 0], .op (some 17) (.bin .eql) [.t 16, .k (.int .u8 98)], .op (some 18) .mv [.t 17], .sc 18 false (nl [.op (some 19) .mv [.t 0], .op (some 20) (.bin .eql) [.t 19, .k (.int .u8 100)]]) (.t 20) (some 21), .op (some 22) .mv [.t 21], .sc 22 false (nl [.op (some 23) .mv [.t 0], .op (some 24) (.bin .eql) [.t 23, .k (.int .u8 110)]]) (.t 24) (some 25), .op (some 26) .mv [.t 25], .sc 26 false (nl [.op (some 27) .mv [.t 0], .op (some 28) (.bin .eql) [.t 27, .k (.int .u8 97)]]) (.t 28) (some 29), .op (some 30) .mv [.t 29], .sc 30 false (nl [.op (some 31) .mv [.t 0], .op (some 32) (.bin .eql) [.t 31, .k (.int .u8 105)]]) (.t 32) (some 33), .op (some 4) .mv [.t 33]])) [4])
                    .ret)
                  (.seq
                    (.reg [⟨(some 35), (.bin .eql), [.t 5, .k (.int .i64 2)], none⟩,
                      ⟨(some 34), .mv, [.t 35], none⟩] [0, 5, 34])
                    (.cond (.t 34)
                      (.seq
                        (.reg [⟨(some 36), .mv, [.t 0], none⟩,
                          ⟨(some 37), (.bin .eql), [.t 36, .k (.int .u8 110)], none⟩,
                          ⟨(some 4), .mv, [.t 37], none⟩] [4])
                        .ret)
                      (.seq
                        (.reg [⟨(some 39), (.bin .eql), [.t 5, .k (.int .i64 3)], none⟩,
                          ⟨(some 38), .mv, [.t 39], none⟩] [0, 5, 38])
                        (.cond (.t 38)
                          (.seq
                            (.reg (flatNs none (nl [.op (some 40) .mv [.t 0], .op (some 41) (.bin .eql) [.t 40, .k (.int .u8 112)], .op (some 42) .mv [.t 41], .sc 42 false (nl [.op (some 43) .mv [.t 0], .op (some 44) (.bin .eql) [.t 43, .k (.int .u8 98)]]) (.t 44) (some 45), .op (some 4) .mv [.t 45]])) [4])
                            .ret)
                          (.seq
                            (.reg [⟨(some 47), (.bin .eql), [.t 5, .k (.int .i64 4)], none⟩,
                              ⟨(some 46), .mv, [.t 47], none⟩] [0, 46])
                            (.cond (.t 46)
                              (.seq
                                (.reg [⟨(some 48), .mv, [.t 0], none⟩,
                                  ⟨(some 49), (.bin .eql), [.t 48, .k (.int .u8 105)], none⟩,
                                  ⟨(some 4), .mv, [.t 49], none⟩] [4])
                                .ret)
                              .skip))))))))))))
      (.seq
        (.reg [⟨(some 4), .mv, [.k (.bool false)], none⟩] [4])
        .ret)))
def s_HasFeature.F : Cfg := ⟨fun _ => 0, fun r => match r with | 0 => [0, 1] | 1 => [0, 5] | 2 => [0, 5, 6] | 3 => [4] | 4 => [0, 5, 14] | 5 => [4] | 6 => [0, 5, 34] | 7 => [4] | 8 => [0, 5, 38] | 9 => [4] | 10 => [0, 46] | 11 => [4] | 12 => [4] | _ => []⟩
def s_HasFeature.X : FX := ⟨50, [.tmp 4], s_HasFeature.F, s_HasFeature.x⟩

theorem s_HasFeature.ok {P : Program} {k : Nat} (hk : Has P k (s_HasFeature.X)) : C_HasFeature P k := by
  intro c f n H
  refine S.ofX hk rfl fun hB fn hr => ?_
  unfold s_HasFeature.x
  repeat' (first
    | ((with_reducible refine S.go ?_); first | refine S.seq ?_ | refine S.skip ?_ | refine S.block ?_ | refine S.inBlock ?_ | refine S.exit rfl ?_ | refine S.regN ?_ | refine S.reg ?_ | refine S.drw hk.mo (by kernel_rfl) ?_ | (refine S.cond rfl (fun hc => ?_) (fun hc => ?_) <;> try simp only [HC] at hc) | refine S.retH hr rfl ?_ | refine S.finH hr rfl ?_ | (refine S.retK hr ?_; refine TR ?_) | fail)
    | ((first | with_reducible refine Ns.go ?_ | with_reducible refine XOs.go ?_ | with_reducible refine XDs.go ?_ | with_reducible refine OK.go ?_); (first | refine TT ?_ | (apply Ns.sc ⟨rfl, rfl⟩ rfl; intro hg) | (refine OK.tr ?_; refine TT ?_)); (try simp only [HC] at hg))
    | with_reducible exact rfl | exact ⟨rfl, rfl, rfl⟩
    | ((with_reducible refine Gd.go ?_); refine Gd.on (fun hg => ?_) (fun hg => ?_) <;> refine TG ?_ <;> (try simp only [HC] at hg))
    | ((with_reducible refine Fin.go ?_); first | (refine Fin.p ?_; first | exact FT | (try refine TT ?_; try simp only [LF])) | refine Fin.a0 ?_ | refine Fin.a ?_ | refine Fin.ni ?_ | refine Fin.v ?_ ?_ | refine Fin.r ?_ ?_ | exact Fin.th | (refine Fin.t ?_; try simp only [AV.sl.injEq]))
    | (refine And.go ?_; refine AndI ?_)
    | fail)
  all_goals (try clear ih); (try clear ih2); (try clear hr hk hB); (try dsimp only)
  all_goals (try simp only [hasF] at *)
  all_goals first | rfl | omega | (simp_all; done) | (simp_all; omega) | (rw [Bool.eq_iff_iff]; simp_all; done) | (rw [Bool.eq_iff_iff]; simp_all; omega) | grind | (rw [Bool.eq_iff_iff]; grind)
/-- spec.IsObstruent -/
def s_IsObstruent.x : XCode :=
  (.seq
    (.reg [⟨(some 2), .mv, [.k (.bool false)], none⟩] [0])
    (.seq
      (.reg (flatNs none (nl [.op (some 3) .mv [.t 0], .op (some 4) (.bin .eql) [.t 3, .k (.int .u8 112)], .op (some 5) .mv [.t 4], .sc 5 false (nl [.op (some 6) .mv [.t 0], .op (some 7) (.bin .eql) [.t 6, .k (.int .u8 116)]]) (.t 7) (some 8), .op (some 9) .mv [.t 8], .sc 9 false (nl [.op (some 10) .mv [.t 0], .op (some 11) (.bin .eql) [.t 10, .k (.int .u8 98)]]) (.t 11) (some 12), .op (some 13) .mv [.t 12], .sc 13 false (nl [.op (some 14) .mv [.t 0], .op (some 15) (.bin .eql) [.t 14, .k (.int .u8 100)]]) (.t 15) (some 16), .op (some 2) .mv [.t 16]])) [2])
      .ret))
def s_IsObstruent.F : Cfg := ⟨fun _ => 0, fun r => match r with | 0 => [0] | 1 => [2] | _ => []⟩
def s_IsObstruent.X : FX := ⟨17, [.tmp 2], s_IsObstruent.F, s_IsObstruent.x⟩

theorem s_IsObstruent.ok {P : Program} {k : Nat} (hk : Has P k (s_IsObstruent.X)) : CB isObs P k := by
  intro c n H
  refine S.ofX hk rfl fun hB fn hr => ?_
  unfold s_IsObstruent.x
  repeat' (first
    | ((with_reducible refine S.go ?_); first | refine S.seq ?_ | refine S.skip ?_ | refine S.block ?_ | refine S.inBlock ?_ | refine S.exit rfl ?_ | refine S.regN ?_ | refine S.reg ?_ | refine S.drw hk.mo (by kernel_rfl) ?_ | (refine S.cond rfl (fun hc => ?_) (fun hc => ?_) <;> try simp only [HC] at hc) | refine S.retH hr rfl ?_ | refine S.finH hr rfl ?_ | (refine S.retK hr ?_; refine TR ?_) | fail)
    | ((first | with_reducible refine Ns.go ?_ | with_reducible refine XOs.go ?_ | with_reducible refine XDs.go ?_ | with_reducible refine OK.go ?_); (first | refine TT ?_ | (apply Ns.sc ⟨rfl, rfl⟩ rfl; intro hg) | (refine OK.tr ?_; refine TT ?_)); (try simp only [HC] at hg))
    | with_reducible exact rfl | exact ⟨rfl, rfl, rfl⟩
    | ((with_reducible refine Gd.go ?_); refine Gd.on (fun hg => ?_) (fun hg => ?_) <;> refine TG ?_ <;> (try simp only [HC] at hg))
    | ((with_reducible refine Fin.go ?_); first | (refine Fin.p ?_; first | exact FT | (try refine TT ?_; try simp only [LF])) | refine Fin.a0 ?_ | refine Fin.a ?_ | refine Fin.ni ?_ | refine Fin.v ?_ ?_ | refine Fin.r ?_ ?_ | exact Fin.th | (refine Fin.t ?_; try simp only [AV.sl.injEq]))
    | (refine And.go ?_; refine AndI ?_)
    | fail)
  all_goals (try clear ih); (try clear ih2); (try clear hr hk hB); (try dsimp only)
  all_goals (try simp only [isObs] at *)
  all_goals first | rfl | omega | (simp_all; done) | (simp_all; omega) | (rw [Bool.eq_iff_iff]; simp_all; done) | (rw [Bool.eq_iff_iff]; simp_all; omega) | grind | (rw [Bool.eq_iff_iff]; grind)
theorem idx_has (l : List UInt8) (c : UInt8) : decide (0 ≤ Lib.indexByte l c) = l.contains c := by
  rw [Lib.contains_iff_indexByte]
/-- impl.IsObstruent -/
def i_IsObstruent.x (c_strings_IndexByte : Nat) : XCode :=
  (.seq
    (.reg [⟨(some 2), .mv, [.k (.bool false)], none⟩] [0])
    (.seq
      (.reg [⟨(some 3), .mv, [.t 0], none⟩,
        ⟨(some 4), .call, [.k (.fn c_strings_IndexByte []), .k (.str [112, 116, 98, 100]), .t 3], none⟩,
        ⟨(some 5), (.bin .geq), [.t 4, .k (.int .i64 0)], none⟩,
        ⟨(some 2), .mv, [.t 5], none⟩] [2])
      .ret))
def i_IsObstruent.F : Cfg := ⟨fun _ => 0, fun r => match r with | 0 => [0] | 1 => [2] | _ => []⟩
def i_IsObstruent.X (c_strings_IndexByte : Nat) : FX := ⟨6, [.tmp 2], i_IsObstruent.F, i_IsObstruent.x c_strings_IndexByte⟩

theorem i_IsObstruent.ok {P : Program} {k c_strings_IndexByte : Nat} (hk : Has P k (i_IsObstruent.X c_strings_IndexByte)) (h1 : C_indexByte P c_strings_IndexByte) : CB isObs P k := by
  intro c n H
  refine S.ofX hk rfl fun hB fn hr => ?_
  unfold i_IsObstruent.x
  repeat' (first
    | ((with_reducible refine S.go ?_); first | refine S.seq ?_ | refine S.skip ?_ | refine S.block ?_ | refine S.inBlock ?_ | refine S.exit rfl ?_ | refine S.regN ?_ | refine S.reg ?_ | refine S.drw hk.mo (by kernel_rfl) ?_ | (refine S.cond rfl (fun hc => ?_) (fun hc => ?_) <;> try simp only [HC] at hc) | refine S.retH hr rfl ?_ | refine S.finH hr rfl ?_ | (refine S.retK hr ?_; refine TR ?_) | fail)
    | ((first | with_reducible refine Ns.go ?_ | with_reducible refine XOs.go ?_ | with_reducible refine XDs.go ?_ | with_reducible refine OK.go ?_); (first | refine TT ?_ | (apply Ns.sc ⟨rfl, rfl⟩ rfl; intro hg) | (refine OK.tr ?_; refine TT ?_)); (try simp only [HC] at hg))
    | with_reducible exact rfl | exact ⟨rfl, rfl, rfl⟩
    | ((with_reducible refine RunsT.go ?_); first | refine RunsF.apf (h1 _ _) rfl ?_ | fail)
    | ((with_reducible refine RunsD.go ?_); first | refine RunsF.apd (h1 _ _) rfl ?_ | fail)
    | ((with_reducible refine Gd.go ?_); refine Gd.on (fun hg => ?_) (fun hg => ?_) <;> refine TG ?_ <;> (try simp only [HC] at hg))
    | ((with_reducible refine Fin.go ?_); first | (refine Fin.p ?_; first | exact FT | (try refine TT ?_; try simp only [LF])) | refine Fin.a0 ?_ | refine Fin.a ?_ | refine Fin.ni ?_ | refine Fin.v ?_ ?_ | refine Fin.r ?_ ?_ | exact Fin.th | (refine Fin.t ?_; try simp only [AV.sl.injEq]))
    | (refine And.go ?_; refine AndI ?_)
    | fail)
  all_goals (rw [idx_has, isObs]; simp only [List.contains_cons, List.contains_nil, Bool.or_false, Bool.or_assoc])
/-- impl.HasFeature -/
def i_HasFeature.x (c_i_within c_strings_IndexByte : Nat) : XCode :=
  (.seq
    (.reg [⟨(some 4), .mv, [.k (.bool false)], none⟩] [0, 1])
    (.seq
      (.seq
        (.reg [⟨(some 5), .mv, [.t 1], none⟩,
          ⟨(some 6), .call, [.k (.fn c_i_within []), .t 5, .k (.int .i64 0), .k (.int .i64 4)], none⟩,
          ⟨(some 7), (.un .not), [.t 6], none⟩] [0, 1, 7])
        (.cond (.t 7)
          (.seq
            (.reg [⟨(some 4), .mv, [.k (.bool false)], none⟩] [4])
            .ret)
          .skip))
      (.seq
        (.reg [⟨(some 8), (.bsl 0 1), [.k (.str [97, 105]), .k (.str [98, 100, 110, 97, 105]), .k (.str [110]), .k (.str [112, 98]), .k (.str [105])], none⟩,
          ⟨(some 9), .mv, [.t 1], none⟩,
          ⟨(some 10), (.idxA 1), [.t 8, .t 9], none⟩,
          ⟨(some 11), (.ld none), [.t 10], none⟩,
          ⟨(some 12), .mv, [.t 0], none⟩,
          ⟨(some 13), .call, [.k (.fn c_strings_IndexByte []), .t 11, .t 12], none⟩,
          ⟨(some 14), (.bin .geq), [.t 13, .k (.int .i64 0)], none⟩,
          ⟨(some 4), .mv, [.t 14], none⟩] [4])
        .ret)))
def i_HasFeature.F : Cfg := ⟨fun _ => 0, fun r => match r with | 0 => [0, 1] | 1 => [0, 1, 7] | 2 => [4] | 3 => [4] | _ => []⟩
def i_HasFeature.X (c_i_within c_strings_IndexByte : Nat) : FX := ⟨15, [.tmp 4], i_HasFeature.F, i_HasFeature.x c_i_within c_strings_IndexByte⟩

theorem i_HasFeature.ok {P : Program} {k c_i_within c_strings_IndexByte : Nat} (hk : Has P k (i_HasFeature.X c_i_within c_strings_IndexByte)) (h1 : C_within P c_i_within) (h2 : C_indexByte P c_strings_IndexByte) : C_HasFeature P k := by
  intro c f n H
  refine S.ofX hk rfl fun hB fn hr => ?_
  unfold i_HasFeature.x
  repeat' (first
    | ((with_reducible refine S.go ?_); first | refine S.seq ?_ | refine S.skip ?_ | refine S.block ?_ | refine S.inBlock ?_ | refine S.exit rfl ?_ | refine S.regN ?_ | refine S.reg ?_ | refine S.drw hk.mo (by kernel_rfl) ?_ | (refine S.cond rfl (fun hc => ?_) (fun hc => ?_) <;> try simp only [HC] at hc) | refine S.retH hr rfl ?_ | refine S.finH hr rfl ?_ | (refine S.retK hr ?_; refine TR ?_) | fail)
    | ((first | with_reducible refine Ns.go ?_ | with_reducible refine XOs.go ?_ | with_reducible refine XDs.go ?_ | with_reducible refine OK.go ?_); (first | refine TT ?_ | (apply Ns.sc ⟨rfl, rfl⟩ rfl; intro hg) | (refine OK.tr ?_; refine TT ?_)); (try simp only [HC] at hg))
    | with_reducible exact rfl | exact ⟨rfl, rfl, rfl⟩
    | ((with_reducible refine RunsT.go ?_); first | refine RunsF.apf (h1 _ _ _) rfl ?_ | fail)
    | ((with_reducible refine RunsD.go ?_); first | refine RunsF.apd (h1 _ _ _) rfl ?_ | fail)
    | ((with_reducible refine Gd.go ?_); refine Gd.on (fun hg => ?_) (fun hg => ?_) <;> refine TG ?_ <;> (try simp only [HC] at hg))
    | ((with_reducible refine Fin.go ?_); first | (refine Fin.p ?_; first | exact FT | (try refine TT ?_; try simp only [LF])) | refine Fin.a0 ?_ | refine Fin.a ?_ | refine Fin.ni ?_ | refine Fin.v ?_ ?_ | refine Fin.r ?_ ?_ | exact Fin.th | (refine Fin.t ?_; try simp only [AV.sl.injEq]))
    | (refine And.go ?_; refine AndI ?_)
    | fail)
  · (simp only [hasF]; (repeat rw [if_neg (by omega)]))
  all_goals (have hf : f = 0 ∨ f = 1 ∨ f = 2 ∨ f = 3 ∨ f = 4 := (by omega))
  all_goals (rcases hf with rfl | rfl | rfl | rfl | rfl)
  repeat' (first
    | ((with_reducible refine S.go ?_); first | refine S.seq ?_ | refine S.skip ?_ | refine S.block ?_ | refine S.inBlock ?_ | refine S.exit rfl ?_ | refine S.regN ?_ | refine S.reg ?_ | refine S.drw hk.mo (by kernel_rfl) ?_ | (refine S.cond rfl (fun hc => ?_) (fun hc => ?_) <;> try simp only [HC] at hc) | refine S.retH hr rfl ?_ | refine S.finH hr rfl ?_ | (refine S.retK hr ?_; refine TR ?_) | fail)
    | ((first | with_reducible refine Ns.go ?_ | with_reducible refine XOs.go ?_ | with_reducible refine XDs.go ?_ | with_reducible refine OK.go ?_); (first | refine TT ?_ | (apply Ns.sc ⟨rfl, rfl⟩ rfl; intro hg) | (refine OK.tr ?_; refine TT ?_)); (try simp only [HC] at hg))
    | with_reducible exact rfl | exact ⟨rfl, rfl, rfl⟩
    | ((with_reducible refine RunsT.go ?_); first | refine RunsF.apf (h2 _ _) rfl ?_ | fail)
    | ((with_reducible refine RunsD.go ?_); first | refine RunsF.apd (h2 _ _) rfl ?_ | fail)
    | ((with_reducible refine Gd.go ?_); refine Gd.on (fun hg => ?_) (fun hg => ?_) <;> refine TG ?_ <;> (try simp only [HC] at hg))
    | ((with_reducible refine Fin.go ?_); first | (refine Fin.p ?_; first | exact FT | (try refine TT ?_; try simp only [LF])) | refine Fin.a0 ?_ | refine Fin.a ?_ | refine Fin.ni ?_ | refine Fin.v ?_ ?_ | refine Fin.r ?_ ?_ | exact Fin.th | (refine Fin.t ?_; try simp only [AV.sl.injEq]))
    | (refine And.go ?_; refine AndI ?_)
    | fail)
  all_goals (rw [idx_has]; simp only [List.contains_cons, List.contains_nil, Bool.or_false, Bool.or_assoc]; simp [hasF, Bool.or_assoc])
def isVoi (c : UInt8) : Bool := isObs c && hasF c 1
def isVls (c : UInt8) : Bool := isObs c && !hasF c 1
def isCon (c : UInt8) : Bool := isSnd c && !hasF c 0
def isLastB (c : UInt8) : Bool := c == 0 || isSnd c
theorem hasF_snd {c : UInt8} {f : Int} (h : hasF c f = true) : isSnd c = true := by
  have key : ∀ c : UInt8, (c = 97 ∨ c = 105 ∨ c = 98 ∨ c = 100 ∨ c = 110 ∨ c = 112) → isSnd c = true := by
    rintro c (rfl | rfl | rfl | rfl | rfl | rfl) <;> rfl
  apply key
  revert h
  unfold hasF
  repeat' split
  all_goals (simp; try grind)
/-- impl.isLast -/
def i_isLast.x (c_i_IsSound : Nat) : XCode :=
  (.seq
    (.reg [⟨(some 2), .mv, [.k (.bool false)], none⟩] [0])
    (.seq
      (.reg (flatNs none (nl [.op (some 3) .mv [.t 0], .op (some 4) (.bin .eql) [.t 3, .k (.int .u8 0)], .op (some 5) .mv [.t 4], .sc 5 false (nl [.op (some 6) .mv [.t 0], .op (some 7) .call [.k (.fn c_i_IsSound []), .t 6]]) (.t 7) (some 8), .op (some 2) .mv [.t 8]])) [2])
      .ret))
def i_isLast.F : Cfg := ⟨fun _ => 0, fun r => match r with | 0 => [0] | 1 => [2] | _ => []⟩
def i_isLast.X (c_i_IsSound : Nat) : FX := ⟨9, [.tmp 2], i_isLast.F, i_isLast.x c_i_IsSound⟩

theorem i_isLast.ok {P : Program} {k c_i_IsSound : Nat} (hk : Has P k (i_isLast.X c_i_IsSound)) (h1 : C_IsSound P c_i_IsSound) : CB isLastB P k := by
  intro c n H
  refine S.ofX hk rfl fun hB fn hr => ?_
  unfold i_isLast.x
  repeat' (first
    | ((with_reducible refine S.go ?_); first | refine S.seq ?_ | refine S.skip ?_ | refine S.block ?_ | refine S.inBlock ?_ | refine S.exit rfl ?_ | refine S.regN ?_ | refine S.reg ?_ | refine S.drw hk.mo (by kernel_rfl) ?_ | (refine S.cond rfl (fun hc => ?_) (fun hc => ?_) <;> try simp only [HC] at hc) | refine S.retH hr rfl ?_ | refine S.finH hr rfl ?_ | (refine S.retK hr ?_; refine TR ?_) | fail)
    | ((first | with_reducible refine Ns.go ?_ | with_reducible refine XOs.go ?_ | with_reducible refine XDs.go ?_ | with_reducible refine OK.go ?_); (first | refine TT ?_ | (apply Ns.sc ⟨rfl, rfl⟩ rfl; intro hg) | (refine OK.tr ?_; refine TT ?_)); (try simp only [HC] at hg))
    | with_reducible exact rfl | exact ⟨rfl, rfl, rfl⟩
    | ((with_reducible refine RunsT.go ?_); first | refine RunsF.apf (h1 _) rfl ?_ | fail)
    | ((with_reducible refine RunsD.go ?_); first | refine RunsF.apd (h1 _) rfl ?_ | fail)
    | ((with_reducible refine Gd.go ?_); refine Gd.on (fun hg => ?_) (fun hg => ?_) <;> refine TG ?_ <;> (try simp only [HC] at hg))
    | ((with_reducible refine Fin.go ?_); first | (refine Fin.p ?_; first | exact FT | (try refine TT ?_; try simp only [LF])) | refine Fin.a0 ?_ | refine Fin.a ?_ | refine Fin.ni ?_ | refine Fin.v ?_ ?_ | refine Fin.r ?_ ?_ | exact Fin.th | (refine Fin.t ?_; try simp only [AV.sl.injEq]))
    | (refine And.go ?_; refine AndI ?_)
    | fail)
  all_goals (try clear ih); (try clear ih2); (try clear hr hk hB); (try dsimp only)
  all_goals (try simp only [isLastB] at *)
  all_goals first | rfl | omega | (simp_all; done) | (simp_all; omega) | (rw [Bool.eq_iff_iff]; simp_all; done) | (rw [Bool.eq_iff_iff]; simp_all; omega) | grind | (rw [Bool.eq_iff_iff]; grind)
/-- impl.isVowel -/
def i_isVowel.x (c_i_HasFeature : Nat) : XCode :=
  (.seq
    (.reg [⟨(some 2), .mv, [.k (.bool false)], none⟩] [0])
    (.seq
      (.reg [⟨(some 3), .mv, [.t 0], none⟩,
        ⟨(some 4), .call, [.k (.fn c_i_HasFeature []), .t 3, .k (.int .i64 0)], none⟩,
        ⟨(some 2), .mv, [.t 4], none⟩] [2])
      .ret))
def i_isVowel.F : Cfg := ⟨fun _ => 0, fun r => match r with | 0 => [0] | 1 => [2] | _ => []⟩
def i_isVowel.X (c_i_HasFeature : Nat) : FX := ⟨5, [.tmp 2], i_isVowel.F, i_isVowel.x c_i_HasFeature⟩

theorem i_isVowel.ok {P : Program} {k c_i_HasFeature : Nat} (hk : Has P k (i_isVowel.X c_i_HasFeature)) (h1 : C_HasFeature P c_i_HasFeature) : CB (fun c => hasF c 0) P k := by
  intro c n H
  refine S.ofX hk rfl fun hB fn hr => ?_
  unfold i_isVowel.x
  repeat' (first
    | ((with_reducible refine S.go ?_); first | refine S.seq ?_ | refine S.skip ?_ | refine S.block ?_ | refine S.inBlock ?_ | refine S.exit rfl ?_ | refine S.regN ?_ | refine S.reg ?_ | refine S.drw hk.mo (by kernel_rfl) ?_ | (refine S.cond rfl (fun hc => ?_) (fun hc => ?_) <;> try simp only [HC] at hc) | refine S.retH hr rfl ?_ | refine S.finH hr rfl ?_ | (refine S.retK hr ?_; refine TR ?_) | fail)
    | ((first | with_reducible refine Ns.go ?_ | with_reducible refine XOs.go ?_ | with_reducible refine XDs.go ?_ | with_reducible refine OK.go ?_); (first | refine TT ?_ | (apply Ns.sc ⟨rfl, rfl⟩ rfl; intro hg) | (refine OK.tr ?_; refine TT ?_)); (try simp only [HC] at hg))
    | with_reducible exact rfl | exact ⟨rfl, rfl, rfl⟩
    | ((with_reducible refine RunsT.go ?_); first | refine RunsF.apf (h1 _ _) rfl ?_ | fail)
    | ((with_reducible refine RunsD.go ?_); first | refine RunsF.apd (h1 _ _) rfl ?_ | fail)
    | ((with_reducible refine Gd.go ?_); refine Gd.on (fun hg => ?_) (fun hg => ?_) <;> refine TG ?_ <;> (try simp only [HC] at hg))
    | ((with_reducible refine Fin.go ?_); first | (refine Fin.p ?_; first | exact FT | (try refine TT ?_; try simp only [LF])) | refine Fin.a0 ?_ | refine Fin.a ?_ | refine Fin.ni ?_ | refine Fin.v ?_ ?_ | refine Fin.r ?_ ?_ | exact Fin.th | (refine Fin.t ?_; try simp only [AV.sl.injEq]))
    | (refine And.go ?_; refine AndI ?_)
    | fail)
/-- impl.isConsonant -/
def i_isConsonant.x (c_i_IsSound c_i_isVowel : Nat) : XCode :=
  (.seq
    (.reg [⟨(some 2), .mv, [.k (.bool false)], none⟩] [0])
    (.seq
      (.reg (flatNs none (nl [.op (some 3) .mv [.t 0], .op (some 4) .call [.k (.fn c_i_IsSound []), .t 3], .op (some 5) .mv [.t 4], .sc 5 true (nl [.op (some 6) .mv [.t 0], .op (some 7) .call [.k (.fn c_i_isVowel []), .t 6], .op (some 8) (.un .not) [.t 7]]) (.t 8) (some 9), .op (some 2) .mv [.t 9]])) [2])
      .ret))
def i_isConsonant.F : Cfg := ⟨fun _ => 0, fun r => match r with | 0 => [0] | 1 => [2] | _ => []⟩
def i_isConsonant.X (c_i_IsSound c_i_isVowel : Nat) : FX := ⟨10, [.tmp 2], i_isConsonant.F, i_isConsonant.x c_i_IsSound c_i_isVowel⟩

theorem i_isConsonant.ok {P : Program} {k c_i_IsSound c_i_isVowel : Nat} (hk : Has P k (i_isConsonant.X c_i_IsSound c_i_isVowel)) (h1 : C_IsSound P c_i_IsSound) (h2 : CB (fun c => hasF c 0) P c_i_isVowel) : CB isCon P k := by
  intro c n H
  refine S.ofX hk rfl fun hB fn hr => ?_
  unfold i_isConsonant.x
  repeat' (first
    | ((with_reducible refine S.go ?_); first | refine S.seq ?_ | refine S.skip ?_ | refine S.block ?_ | refine S.inBlock ?_ | refine S.exit rfl ?_ | refine S.regN ?_ | refine S.reg ?_ | refine S.drw hk.mo (by kernel_rfl) ?_ | (refine S.cond rfl (fun hc => ?_) (fun hc => ?_) <;> try simp only [HC] at hc) | refine S.retH hr rfl ?_ | refine S.finH hr rfl ?_ | (refine S.retK hr ?_; refine TR ?_) | fail)
    | ((first | with_reducible refine Ns.go ?_ | with_reducible refine XOs.go ?_ | with_reducible refine XDs.go ?_ | with_reducible refine OK.go ?_); (first | refine TT ?_ | (apply Ns.sc ⟨rfl, rfl⟩ rfl; intro hg) | (refine OK.tr ?_; refine TT ?_)); (try simp only [HC] at hg))
    | with_reducible exact rfl | exact ⟨rfl, rfl, rfl⟩
    | ((with_reducible refine RunsT.go ?_); first | refine RunsF.apf (h1 _) rfl ?_ | refine RunsF.apf (h2 _) rfl ?_ | fail)
    | ((with_reducible refine RunsD.go ?_); first | refine RunsF.apd (h1 _) rfl ?_ | refine RunsF.apd (h2 _) rfl ?_ | fail)
    | ((with_reducible refine Gd.go ?_); refine Gd.on (fun hg => ?_) (fun hg => ?_) <;> refine TG ?_ <;> (try simp only [HC] at hg))
    | ((with_reducible refine Fin.go ?_); first | (refine Fin.p ?_; first | exact FT | (try refine TT ?_; try simp only [LF])) | refine Fin.a0 ?_ | refine Fin.a ?_ | refine Fin.ni ?_ | refine Fin.v ?_ ?_ | refine Fin.r ?_ ?_ | exact Fin.th | (refine Fin.t ?_; try simp only [AV.sl.injEq]))
    | (refine And.go ?_; refine AndI ?_)
    | fail)
  all_goals (try clear ih); (try clear ih2); (try clear hr hk hB); (try dsimp only)
  all_goals (try simp only [isCon] at *)
  all_goals first | rfl | omega | (simp_all; done) | (simp_all; omega) | (rw [Bool.eq_iff_iff]; simp_all; done) | (rw [Bool.eq_iff_iff]; simp_all; omega) | grind | (rw [Bool.eq_iff_iff]; grind)
/-- impl.isVoiced -/
def i_isVoiced.x (c_i_IsObstruent c_i_HasFeature : Nat) : XCode :=
  (.seq
    (.reg [⟨(some 2), .mv, [.k (.bool false)], none⟩] [0])
    (.seq
      (.reg (flatNs none (nl [.op (some 3) .mv [.t 0], .op (some 4) .call [.k (.fn c_i_IsObstruent []), .t 3], .op (some 5) .mv [.t 4], .sc 5 true (nl [.op (some 6) .mv [.t 0], .op (some 7) .call [.k (.fn c_i_HasFeature []), .t 6, .k (.int .i64 1)]]) (.t 7) (some 8), .op (some 2) .mv [.t 8]])) [2])
      .ret))
def i_isVoiced.F : Cfg := ⟨fun _ => 0, fun r => match r with | 0 => [0] | 1 => [2] | _ => []⟩
def i_isVoiced.X (c_i_IsObstruent c_i_HasFeature : Nat) : FX := ⟨9, [.tmp 2], i_isVoiced.F, i_isVoiced.x c_i_IsObstruent c_i_HasFeature⟩

theorem i_isVoiced.ok {P : Program} {k c_i_IsObstruent c_i_HasFeature : Nat} (hk : Has P k (i_isVoiced.X c_i_IsObstruent c_i_HasFeature)) (h1 : CB isObs P c_i_IsObstruent) (h2 : C_HasFeature P c_i_HasFeature) : CB isVoi P k := by
  intro c n H
  refine S.ofX hk rfl fun hB fn hr => ?_
  unfold i_isVoiced.x
  repeat' (first
    | ((with_reducible refine S.go ?_); first | refine S.seq ?_ | refine S.skip ?_ | refine S.block ?_ | refine S.inBlock ?_ | refine S.exit rfl ?_ | refine S.regN ?_ | refine S.reg ?_ | refine S.drw hk.mo (by kernel_rfl) ?_ | (refine S.cond rfl (fun hc => ?_) (fun hc => ?_) <;> try simp only [HC] at hc) | refine S.retH hr rfl ?_ | refine S.finH hr rfl ?_ | (refine S.retK hr ?_; refine TR ?_) | fail)
    | ((first | with_reducible refine Ns.go ?_ | with_reducible refine XOs.go ?_ | with_reducible refine XDs.go ?_ | with_reducible refine OK.go ?_); (first | refine TT ?_ | (apply Ns.sc ⟨rfl, rfl⟩ rfl; intro hg) | (refine OK.tr ?_; refine TT ?_)); (try simp only [HC] at hg))
    | with_reducible exact rfl | exact ⟨rfl, rfl, rfl⟩
    | ((with_reducible refine RunsT.go ?_); first | refine RunsF.apf (h1 _) rfl ?_ | refine RunsF.apf (h2 _ _) rfl ?_ | fail)
    | ((with_reducible refine RunsD.go ?_); first | refine RunsF.apd (h1 _) rfl ?_ | refine RunsF.apd (h2 _ _) rfl ?_ | fail)
    | ((with_reducible refine Gd.go ?_); refine Gd.on (fun hg => ?_) (fun hg => ?_) <;> refine TG ?_ <;> (try simp only [HC] at hg))
    | ((with_reducible refine Fin.go ?_); first | (refine Fin.p ?_; first | exact FT | (try refine TT ?_; try simp only [LF])) | refine Fin.a0 ?_ | refine Fin.a ?_ | refine Fin.ni ?_ | refine Fin.v ?_ ?_ | refine Fin.r ?_ ?_ | exact Fin.th | (refine Fin.t ?_; try simp only [AV.sl.injEq]))
    | (refine And.go ?_; refine AndI ?_)
    | fail)
  all_goals (try clear ih); (try clear ih2); (try clear hr hk hB); (try dsimp only)
  all_goals (try simp only [isVoi] at *)
  all_goals first | rfl | omega | (simp_all; done) | (simp_all; omega) | (rw [Bool.eq_iff_iff]; simp_all; done) | (rw [Bool.eq_iff_iff]; simp_all; omega) | grind | (rw [Bool.eq_iff_iff]; grind)
/-- impl.isVoiceless -/
def i_isVoiceless.x (c_i_IsObstruent c_i_HasFeature : Nat) : XCode :=
  (.seq
    (.reg [⟨(some 2), .mv, [.k (.bool false)], none⟩] [0])
    (.seq
      (.reg (flatNs none (nl [.op (some 3) .mv [.t 0], .op (some 4) .call [.k (.fn c_i_IsObstruent []), .t 3], .op (some 5) .mv [.t 4], .sc 5 true (nl [.op (some 6) .mv [.t 0], .op (some 7) .call [.k (.fn c_i_HasFeature []), .t 6, .k (.int .i64 1)], .op (some 8) (.un .not) [.t 7]]) (.t 8) (some 9), .op (some 2) .mv [.t 9]])) [2])
      .ret))
def i_isVoiceless.F : Cfg := ⟨fun _ => 0, fun r => match r with | 0 => [0] | 1 => [2] | _ => []⟩
def i_isVoiceless.X (c_i_IsObstruent c_i_HasFeature : Nat) : FX := ⟨10, [.tmp 2], i_isVoiceless.F, i_isVoiceless.x c_i_IsObstruent c_i_HasFeature⟩

theorem i_isVoiceless.ok {P : Program} {k c_i_IsObstruent c_i_HasFeature : Nat} (hk : Has P k (i_isVoiceless.X c_i_IsObstruent c_i_HasFeature)) (h1 : CB isObs P c_i_IsObstruent) (h2 : C_HasFeature P c_i_HasFeature) : CB isVls P k := by
  intro c n H
  refine S.ofX hk rfl fun hB fn hr => ?_
  unfold i_isVoiceless.x
  repeat' (first
    | ((with_reducible refine S.go ?_); first | refine S.seq ?_ | refine S.skip ?_ | refine S.block ?_ | refine S.inBlock ?_ | refine S.exit rfl ?_ | refine S.regN ?_ | refine S.reg ?_ | refine S.drw hk.mo (by kernel_rfl) ?_ | (refine S.cond rfl (fun hc => ?_) (fun hc => ?_) <;> try simp only [HC] at hc) | refine S.retH hr rfl ?_ | refine S.finH hr rfl ?_ | (refine S.retK hr ?_; refine TR ?_) | fail)
    | ((first | with_reducible refine Ns.go ?_ | with_reducible refine XOs.go ?_ | with_reducible refine XDs.go ?_ | with_reducible refine OK.go ?_); (first | refine TT ?_ | (apply Ns.sc ⟨rfl, rfl⟩ rfl; intro hg) | (refine OK.tr ?_; refine TT ?_)); (try simp only [HC] at hg))
    | with_reducible exact rfl | exact ⟨rfl, rfl, rfl⟩
    | ((with_reducible refine RunsT.go ?_); first | refine RunsF.apf (h1 _) rfl ?_ | refine RunsF.apf (h2 _ _) rfl ?_ | fail)
    | ((with_reducible refine RunsD.go ?_); first | refine RunsF.apd (h1 _) rfl ?_ | refine RunsF.apd (h2 _ _) rfl ?_ | fail)
    | ((with_reducible refine Gd.go ?_); refine Gd.on (fun hg => ?_) (fun hg => ?_) <;> refine TG ?_ <;> (try simp only [HC] at hg))
    | ((with_reducible refine Fin.go ?_); first | (refine Fin.p ?_; first | exact FT | (try refine TT ?_; try simp only [LF])) | refine Fin.a0 ?_ | refine Fin.a ?_ | refine Fin.ni ?_ | refine Fin.v ?_ ?_ | refine Fin.r ?_ ?_ | exact Fin.th | (refine Fin.t ?_; try simp only [AV.sl.injEq]))
    | (refine And.go ?_; refine AndI ?_)
    | fail)
  all_goals (try clear ih); (try clear ih2); (try clear hr hk hB); (try dsimp only)
  all_goals (try simp only [isVls] at *)
  all_goals first | rfl | omega | (simp_all; done) | (simp_all; omega) | (rw [Bool.eq_iff_iff]; simp_all; done) | (rw [Bool.eq_iff_iff]; simp_all; omega) | grind | (rw [Bool.eq_iff_iff]; grind)
/-- spec.l8Voiced -/
def s_l8Voiced.x (c_s_IsObstruent c_s_HasFeature : Nat) : XCode :=
  (.seq
    (.reg [⟨(some 2), .mv, [.k (.bool false)], none⟩] [0])
    (.seq
      (.reg (flatNs none (nl [.op (some 3) .mv [.t 0], .op (some 4) .call [.k (.fn c_s_IsObstruent []), .t 3], .op (some 5) .mv [.t 4], .sc 5 true (nl [.op (some 6) .mv [.t 0], .op (some 7) .call [.k (.fn c_s_HasFeature []), .t 6, .k (.int .i64 1)]]) (.t 7) (some 8), .op (some 2) .mv [.t 8]])) [2])
      .ret))
def s_l8Voiced.F : Cfg := ⟨fun _ => 0, fun r => match r with | 0 => [0] | 1 => [2] | _ => []⟩
def s_l8Voiced.X (c_s_IsObstruent c_s_HasFeature : Nat) : FX := ⟨9, [.tmp 2], s_l8Voiced.F, s_l8Voiced.x c_s_IsObstruent c_s_HasFeature⟩

theorem s_l8Voiced.ok {P : Program} {k c_s_IsObstruent c_s_HasFeature : Nat} (hk : Has P k (s_l8Voiced.X c_s_IsObstruent c_s_HasFeature)) (h1 : CB isObs P c_s_IsObstruent) (h2 : C_HasFeature P c_s_HasFeature) : CB isVoi P k := by
  intro c n H
  refine S.ofX hk rfl fun hB fn hr => ?_
  unfold s_l8Voiced.x
  repeat' (first
    | ((with_reducible refine S.go ?_); first | refine S.seq ?_ | refine S.skip ?_ | refine S.block ?_ | refine S.inBlock ?_ | refine S.exit rfl ?_ | refine S.regN ?_ | refine S.reg ?_ | refine S.drw hk.mo (by kernel_rfl) ?_ | (refine S.cond rfl (fun hc => ?_) (fun hc => ?_) <;> try simp only [HC] at hc) | refine S.retH hr rfl ?_ | refine S.finH hr rfl ?_ | (refine S.retK hr ?_; refine TR ?_) | fail)
    | ((first | with_reducible refine Ns.go ?_ | with_reducible refine XOs.go ?_ | with_reducible refine XDs.go ?_ | with_reducible refine OK.go ?_); (first | refine TT ?_ | (apply Ns.sc ⟨rfl, rfl⟩ rfl; intro hg) | (refine OK.tr ?_; refine TT ?_)); (try simp only [HC] at hg))
    | with_reducible exact rfl | exact ⟨rfl, rfl, rfl⟩
    | ((with_reducible refine RunsT.go ?_); first | refine RunsF.apf (h1 _) rfl ?_ | refine RunsF.apf (h2 _ _) rfl ?_ | fail)
    | ((with_reducible refine RunsD.go ?_); first | refine RunsF.apd (h1 _) rfl ?_ | refine RunsF.apd (h2 _ _) rfl ?_ | fail)
    | ((with_reducible refine Gd.go ?_); refine Gd.on (fun hg => ?_) (fun hg => ?_) <;> refine TG ?_ <;> (try simp only [HC] at hg))
    | ((with_reducible refine Fin.go ?_); first | (refine Fin.p ?_; first | exact FT | (try refine TT ?_; try simp only [LF])) | refine Fin.a0 ?_ | refine Fin.a ?_ | refine Fin.ni ?_ | refine Fin.v ?_ ?_ | refine Fin.r ?_ ?_ | exact Fin.th | (refine Fin.t ?_; try simp only [AV.sl.injEq]))
    | (refine And.go ?_; refine AndI ?_)
    | fail)
  all_goals (try clear ih); (try clear ih2); (try clear hr hk hB); (try dsimp only)
  all_goals (try simp only [isVoi] at *)
  all_goals first | rfl | omega | (simp_all; done) | (simp_all; omega) | (rw [Bool.eq_iff_iff]; simp_all; done) | (rw [Bool.eq_iff_iff]; simp_all; omega) | grind | (rw [Bool.eq_iff_iff]; grind)
/-- spec.l31Consonant -/
def s_l31Consonant.x (c_s_HasFeature : Nat) : XCode :=
  (.seq
    (.reg [⟨(some 2), .mv, [.k (.bool false)], none⟩] [0])
    (.seq
      (.reg (flatNs none (nl [.op (some 3) .mv [.t 0], .op (some 4) (.bin .neq) [.t 3, .k (.int .u8 0)], .op (some 5) .mv [.t 4], .sc 5 true (nl [.op (some 6) .mv [.t 0], .op (some 7) .call [.k (.fn c_s_HasFeature []), .t 6, .k (.int .i64 0)], .op (some 8) (.un .not) [.t 7]]) (.t 8) (some 9), .op (some 2) .mv [.t 9]])) [2])
      .ret))
def s_l31Consonant.F : Cfg := ⟨fun _ => 0, fun r => match r with | 0 => [0] | 1 => [2] | _ => []⟩
def s_l31Consonant.X (c_s_HasFeature : Nat) : FX := ⟨10, [.tmp 2], s_l31Consonant.F, s_l31Consonant.x c_s_HasFeature⟩

theorem s_l31Consonant.ok {P : Program} {k c_s_HasFeature : Nat} (hk : Has P k (s_l31Consonant.X c_s_HasFeature)) (h2 : C_HasFeature P c_s_HasFeature) : CB (fun c => c != 0 && !hasF c 0) P k := by
  intro c n H
  refine S.ofX hk rfl fun hB fn hr => ?_
  unfold s_l31Consonant.x
  repeat' (first
    | ((with_reducible refine S.go ?_); first | refine S.seq ?_ | refine S.skip ?_ | refine S.block ?_ | refine S.inBlock ?_ | refine S.exit rfl ?_ | refine S.regN ?_ | refine S.reg ?_ | refine S.drw hk.mo (by kernel_rfl) ?_ | (refine S.cond rfl (fun hc => ?_) (fun hc => ?_) <;> try simp only [HC] at hc) | refine S.retH hr rfl ?_ | refine S.finH hr rfl ?_ | (refine S.retK hr ?_; refine TR ?_) | fail)
    | ((first | with_reducible refine Ns.go ?_ | with_reducible refine XOs.go ?_ | with_reducible refine XDs.go ?_ | with_reducible refine OK.go ?_); (first | refine TT ?_ | (apply Ns.sc ⟨rfl, rfl⟩ rfl; intro hg) | (refine OK.tr ?_; refine TT ?_)); (try simp only [HC] at hg))
    | with_reducible exact rfl | exact ⟨rfl, rfl, rfl⟩
    | ((with_reducible refine RunsT.go ?_); first | refine RunsF.apf (h2 _ _) rfl ?_ | fail)
    | ((with_reducible refine RunsD.go ?_); first | refine RunsF.apd (h2 _ _) rfl ?_ | fail)
    | ((with_reducible refine Gd.go ?_); refine Gd.on (fun hg => ?_) (fun hg => ?_) <;> refine TG ?_ <;> (try simp only [HC] at hg))
    | ((with_reducible refine Fin.go ?_); first | (refine Fin.p ?_; first | exact FT | (try refine TT ?_; try simp only [LF])) | refine Fin.a0 ?_ | refine Fin.a ?_ | refine Fin.ni ?_ | refine Fin.v ?_ ?_ | refine Fin.r ?_ ?_ | exact Fin.th | (refine Fin.t ?_; try simp only [AV.sl.injEq]))
    | (refine And.go ?_; refine AndI ?_)
    | fail)
  all_goals (try clear ih); (try clear ih2); (try clear hr hk hB); (try dsimp only)
  all_goals first | rfl | omega | (simp_all; done) | (simp_all; omega) | (rw [Bool.eq_iff_iff]; simp_all; done) | (rw [Bool.eq_iff_iff]; simp_all; omega) | grind | (rw [Bool.eq_iff_iff]; grind)
/-- spec.l31Vowel -/
def s_l31Vowel.x (c_s_HasFeature : Nat) : XCode :=
  (.seq
    (.reg [⟨(some 2), .mv, [.k (.bool false)], none⟩] [0])
    (.seq
      (.reg (flatNs none (nl [.op (some 3) .mv [.t 0], .op (some 4) (.bin .neq) [.t 3, .k (.int .u8 0)], .op (some 5) .mv [.t 4], .sc 5 true (nl [.op (some 6) .mv [.t 0], .op (some 7) .call [.k (.fn c_s_HasFeature []), .t 6, .k (.int .i64 0)]]) (.t 7) (some 8), .op (some 2) .mv [.t 8]])) [2])
      .ret))
def s_l31Vowel.F : Cfg := ⟨fun _ => 0, fun r => match r with | 0 => [0] | 1 => [2] | _ => []⟩
def s_l31Vowel.X (c_s_HasFeature : Nat) : FX := ⟨9, [.tmp 2], s_l31Vowel.F, s_l31Vowel.x c_s_HasFeature⟩

theorem s_l31Vowel.ok {P : Program} {k c_s_HasFeature : Nat} (hk : Has P k (s_l31Vowel.X c_s_HasFeature)) (h2 : C_HasFeature P c_s_HasFeature) : CB (fun c => c != 0 && hasF c 0) P k := by
  intro c n H
  refine S.ofX hk rfl fun hB fn hr => ?_
  unfold s_l31Vowel.x
  repeat' (first
    | ((with_reducible refine S.go ?_); first | refine S.seq ?_ | refine S.skip ?_ | refine S.block ?_ | refine S.inBlock ?_ | refine S.exit rfl ?_ | refine S.regN ?_ | refine S.reg ?_ | refine S.drw hk.mo (by kernel_rfl) ?_ | (refine S.cond rfl (fun hc => ?_) (fun hc => ?_) <;> try simp only [HC] at hc) | refine S.retH hr rfl ?_ | refine S.finH hr rfl ?_ | (refine S.retK hr ?_; refine TR ?_) | fail)
    | ((first | with_reducible refine Ns.go ?_ | with_reducible refine XOs.go ?_ | with_reducible refine XDs.go ?_ | with_reducible refine OK.go ?_); (first | refine TT ?_ | (apply Ns.sc ⟨rfl, rfl⟩ rfl; intro hg) | (refine OK.tr ?_; refine TT ?_)); (try simp only [HC] at hg))
    | with_reducible exact rfl | exact ⟨rfl, rfl, rfl⟩
    | ((with_reducible refine RunsT.go ?_); first | refine RunsF.apf (h2 _ _) rfl ?_ | fail)
    | ((with_reducible refine RunsD.go ?_); first | refine RunsF.apd (h2 _ _) rfl ?_ | fail)
    | ((with_reducible refine Gd.go ?_); refine Gd.on (fun hg => ?_) (fun hg => ?_) <;> refine TG ?_ <;> (try simp only [HC] at hg))
    | ((with_reducible refine Fin.go ?_); first | (refine Fin.p ?_; first | exact FT | (try refine TT ?_; try simp only [LF])) | refine Fin.a0 ?_ | refine Fin.a ?_ | refine Fin.ni ?_ | refine Fin.v ?_ ?_ | refine Fin.r ?_ ?_ | exact Fin.th | (refine Fin.t ?_; try simp only [AV.sl.injEq]))
    | (refine And.go ?_; refine AndI ?_)
    | fail)
  all_goals (try clear ih); (try clear ih2); (try clear hr hk hB); (try dsimp only)
  all_goals first | rfl | omega | (simp_all; done) | (simp_all; omega) | (rw [Bool.eq_iff_iff]; simp_all; done) | (rw [Bool.eq_iff_iff]; simp_all; omega) | grind | (rw [Bool.eq_iff_iff]; grind)

/-- The voice swapped. -/
def swapV (c : UInt8) : UInt8 := if c = 112 then 98 else if c = 98 then 112 else if c = 116 then 100 else if c = 100 then 116 else c
def C_SwapVoice (P : Program) (k : Nat) : Prop := ∀ c : UInt8, RunsF P k [.int .u8 (c.toNat : Int)] (.tup [.int .u8 ((swapV c).toNat : Int), .bool (isObs c)])
/-- spec.SwapVoice -/
def s_SwapVoice.x : XCode :=
  (.seq
    (.reg [⟨(some 2), .mv, [.k (.int .u8 0)], none⟩,
      ⟨(some 3), .mv, [.k (.bool false)], none⟩] [0])
    (.seq
      (.seq
        (.reg [⟨(some 4), .mv, [.t 0], none⟩] [0, 4])
        (.block 0
          (.seq
            (.reg [⟨(some 6), (.bin .eql), [.t 4, .k (.int .u8 112)], none⟩,
              ⟨(some 5), .mv, [.t 6], none⟩] [0, 4, 5])
            (.cond (.t 5)
              (.seq
                (.reg [⟨(some 2), .mv, [.k (.int .u8 98)], none⟩,
                  ⟨(some 3), .mv, [.k (.bool true)], none⟩] [2, 3])
                .ret)
              (.seq
                (.reg [⟨(some 8), (.bin .eql), [.t 4, .k (.int .u8 98)], none⟩,
                  ⟨(some 7), .mv, [.t 8], none⟩] [0, 4, 7])
                (.cond (.t 7)
                  (.seq
                    (.reg [⟨(some 2), .mv, [.k (.int .u8 112)], none⟩,
                      ⟨(some 3), .mv, [.k (.bool true)], none⟩] [2, 3])
                    .ret)
                  (.seq
                    (.reg [⟨(some 10), (.bin .eql), [.t 4, .k (.int .u8 116)], none⟩,
                      ⟨(some 9), .mv, [.t 10], none⟩] [0, 4, 9])
                    (.cond (.t 9)
                      (.seq
                        (.reg [⟨(some 2), .mv, [.k (.int .u8 100)], none⟩,
                          ⟨(some 3), .mv, [.k (.bool true)], none⟩] [2, 3])
                        .ret)
                      (.seq
                        (.reg [⟨(some 12), (.bin .eql), [.t 4, .k (.int .u8 100)], none⟩,
                          ⟨(some 11), .mv, [.t 12], none⟩] [0, 11])
                        (.cond (.t 11)
                          (.seq
                            (.reg [⟨(some 2), .mv, [.k (.int .u8 116)], none⟩,
                              ⟨(some 3), .mv, [.k (.bool true)], none⟩] [2, 3])
                            .ret)
                          .skip))))))))))
      (.seq
        (.reg [⟨(some 13), .mv, [.t 0], none⟩,
          ⟨(some 2), .mv, [.t 13], none⟩,
          ⟨(some 3), .mv, [.k (.bool false)], none⟩] [2, 3])
        .ret)))
def s_SwapVoice.F : Cfg := ⟨fun _ => 0, fun r => match r with | 0 => [0] | 1 => [0, 4] | 2 => [0, 4, 5] | 3 => [2, 3] | 4 => [0, 4, 7] | 5 => [2, 3] | 6 => [0, 4, 9] | 7 => [2, 3] | 8 => [0, 11] | 9 => [2, 3] | 10 => [2, 3] | _ => []⟩
def s_SwapVoice.X : FX := ⟨14, [.tmp 2, .tmp 3], s_SwapVoice.F, s_SwapVoice.x⟩

theorem s_SwapVoice.ok {P : Program} {k : Nat} (hk : Has P k (s_SwapVoice.X)) : C_SwapVoice P k := by
  intro c n H
  refine S.ofX hk rfl fun hB fn hr => ?_
  unfold s_SwapVoice.x
  repeat' (first
    | ((with_reducible refine S.go ?_); first | refine S.seq ?_ | refine S.skip ?_ | refine S.block ?_ | refine S.inBlock ?_ | refine S.exit rfl ?_ | refine S.regN ?_ | refine S.reg ?_ | refine S.drw hk.mo (by kernel_rfl) ?_ | (refine S.cond rfl (fun hc => ?_) (fun hc => ?_) <;> try simp only [HC] at hc) | refine S.retH hr rfl ?_ | refine S.finH hr rfl ?_ | (refine S.retK hr ?_; refine TR ?_) | fail)
    | ((first | with_reducible refine Ns.go ?_ | with_reducible refine XOs.go ?_ | with_reducible refine XDs.go ?_ | with_reducible refine OK.go ?_); (first | refine TT ?_ | (apply Ns.sc ⟨rfl, rfl⟩ rfl; intro hg) | (refine OK.tr ?_; refine TT ?_)); (try simp only [HC] at hg))
    | with_reducible exact rfl | exact ⟨rfl, rfl, rfl⟩
    | ((with_reducible refine Gd.go ?_); refine Gd.on (fun hg => ?_) (fun hg => ?_) <;> refine TG ?_ <;> (try simp only [HC] at hg))
    | ((with_reducible refine Fin.go ?_); first | (refine Fin.p ?_; first | exact FT | (try refine TT ?_; try simp only [LF])) | refine Fin.a0 ?_ | refine Fin.a ?_ | refine Fin.ni ?_ | refine Fin.v ?_ ?_ | refine Fin.r ?_ ?_ | exact Fin.th | (refine Fin.t ?_; try simp only [AV.sl.injEq]))
    | (refine And.go ?_; refine AndI ?_)
    | fail)
  all_goals (try clear ih); (try clear ih2); (try clear hr hk hB); (try dsimp only)
  all_goals (try simp only [swapV, isObs] at *)
  all_goals first | rfl | omega | (simp_all; done) | (simp_all; omega) | (rw [Bool.eq_iff_iff]; simp_all; done) | (rw [Bool.eq_iff_iff]; simp_all; omega) | grind | (rw [Bool.eq_iff_iff]; grind)
theorem sw_idx (c : UInt8) : (c = 112 ∧ Lib.indexByte [112, 116, 98, 100] c = 0) ∨ (c = 116 ∧ Lib.indexByte [112, 116, 98, 100] c = 1) ∨ (c = 98 ∧ Lib.indexByte [112, 116, 98, 100] c = 2) ∨ (c = 100 ∧ Lib.indexByte [112, 116, 98, 100] c = 3) ∨
    (c ≠ 112 ∧ c ≠ 116 ∧ c ≠ 98 ∧ c ≠ 100 ∧ Lib.indexByte [112, 116, 98, 100] c = -1) := by
  by_cases h1 : c = 112
  · subst h1; exact .inl ⟨rfl, rfl⟩
  by_cases h2 : c = 116
  · subst h2; exact .inr (.inl ⟨rfl, rfl⟩)
  by_cases h3 : c = 98
  · subst h3; exact .inr (.inr (.inl ⟨rfl, rfl⟩))
  by_cases h4 : c = 100
  · subst h4; exact .inr (.inr (.inr (.inl ⟨rfl, rfl⟩)))
  refine .inr (.inr (.inr (.inr ⟨h1, h2, h3, h4, ?_⟩)))
  have e : ∀ {a b : UInt8}, a ≠ b → (b = a) = False := fun h => by simp; exact fun e => h e.symm
  simp [Lib.indexByte, e h1, e h2, e h3, e h4, h1, h2, h3, h4]
/-- impl.SwapVoice -/
def i_SwapVoice.x (c_strings_IndexByte : Nat) : XCode :=
  (.seq
    (.reg [⟨(some 2), .mv, [.k (.int .u8 0)], none⟩,
      ⟨(some 3), .mv, [.k (.bool false)], none⟩] [0])
    (.seq
      (.reg [⟨(some 5), .mv, [.t 0], none⟩,
        ⟨(some 6), .call, [.k (.fn c_strings_IndexByte []), .k (.str [112, 116, 98, 100]), .t 5], none⟩,
        ⟨(some 4), .mv, [.t 6], none⟩] [0, 4])
      (.seq
        (.seq
          (.reg [⟨(some 7), .mv, [.t 4], none⟩,
            ⟨(some 8), (.bin .lss), [.t 7, .k (.int .i64 0)], none⟩] [0, 4, 8])
          (.cond (.t 8)
            (.seq
              (.reg [⟨(some 9), .mv, [.t 0], none⟩,
                ⟨(some 2), .mv, [.t 9], none⟩,
                ⟨(some 3), .mv, [.k (.bool false)], none⟩] [2, 3])
              .ret)
            .skip))
        (.seq
          (.reg [⟨(some 10), .mv, [.t 4], none⟩,
            ⟨(some 11), .idxS, [.k (.str [98, 100, 112, 116]), .t 10], none⟩,
            ⟨(some 2), .mv, [.t 11], none⟩,
            ⟨(some 3), .mv, [.k (.bool true)], none⟩] [2, 3])
          .ret))))
def i_SwapVoice.F : Cfg := ⟨fun _ => 0, fun r => match r with | 0 => [0] | 1 => [0, 4] | 2 => [0, 4, 8] | 3 => [2, 3] | 4 => [2, 3] | _ => []⟩
def i_SwapVoice.X (c_strings_IndexByte : Nat) : FX := ⟨12, [.tmp 2, .tmp 3], i_SwapVoice.F, i_SwapVoice.x c_strings_IndexByte⟩

theorem i_SwapVoice.ok {P : Program} {k c_strings_IndexByte : Nat} (hk : Has P k (i_SwapVoice.X c_strings_IndexByte)) (h1 : C_indexByte P c_strings_IndexByte) : C_SwapVoice P k := by
  intro c n H
  refine S.ofX hk rfl fun hB fn hr => ?_
  unfold i_SwapVoice.x
  repeat' (first
    | ((with_reducible refine S.go ?_); first | refine S.seq ?_ | refine S.skip ?_ | refine S.block ?_ | refine S.inBlock ?_ | refine S.exit rfl ?_ | refine S.regN ?_ | refine S.reg ?_ | refine S.drw hk.mo (by kernel_rfl) ?_ | (refine S.cond rfl (fun hc => ?_) (fun hc => ?_) <;> try simp only [HC] at hc) | refine S.retH hr rfl ?_ | refine S.finH hr rfl ?_ | (refine S.retK hr ?_; refine TR ?_) | fail)
    | ((first | with_reducible refine Ns.go ?_ | with_reducible refine XOs.go ?_ | with_reducible refine XDs.go ?_ | with_reducible refine OK.go ?_); (first | refine TT ?_ | (apply Ns.sc ⟨rfl, rfl⟩ rfl; intro hg) | (refine OK.tr ?_; refine TT ?_)); (try simp only [HC] at hg))
    | with_reducible exact rfl | exact ⟨rfl, rfl, rfl⟩
    | ((with_reducible refine RunsT.go ?_); first | refine RunsF.apf (h1 _ _) rfl ?_ | fail)
    | ((with_reducible refine RunsD.go ?_); first | refine RunsF.apd (h1 _ _) rfl ?_ | fail)
    | ((with_reducible refine Gd.go ?_); refine Gd.on (fun hg => ?_) (fun hg => ?_) <;> refine TG ?_ <;> (try simp only [HC] at hg))
    | ((with_reducible refine Fin.go ?_); first | (refine Fin.p ?_; first | exact FT | (try refine TT ?_; try simp only [LF])) | refine Fin.a0 ?_ | refine Fin.a ?_ | refine Fin.ni ?_ | refine Fin.v ?_ ?_ | refine Fin.r ?_ ?_ | exact Fin.th | (refine Fin.t ?_; try simp only [AV.sl.injEq]))
    | (refine And.go ?_; refine AndI ?_)
    | fail)
  · obtain ⟨hc0, hx⟩ | ⟨hc0, hx⟩ | ⟨hc0, hx⟩ | ⟨hc0, hx⟩ | ⟨k1, k2, k3, k4, hx⟩ := sw_idx c <;> first | (exfalso; omega) | skip
    simp [swapV, isObs, k1, k2, k3, k4]
  obtain ⟨hc0, hx⟩ | ⟨hc0, hx⟩ | ⟨hc0, hx⟩ | ⟨hc0, hx⟩ | ⟨k1, k2, k3, k4, hx⟩ := sw_idx c <;> first | (exfalso; omega) | (rw [hx]; subst hc0; refine ⟨by decide, ?_⟩)
  repeat' (first
    | ((with_reducible refine S.go ?_); first | refine S.seq ?_ | refine S.skip ?_ | refine S.block ?_ | refine S.inBlock ?_ | refine S.exit rfl ?_ | refine S.regN ?_ | refine S.reg ?_ | refine S.drw hk.mo (by kernel_rfl) ?_ | (refine S.cond rfl (fun hc => ?_) (fun hc => ?_) <;> try simp only [HC] at hc) | refine S.retH hr rfl ?_ | refine S.finH hr rfl ?_ | (refine S.retK hr ?_; refine TR ?_) | fail)
    | ((first | with_reducible refine Ns.go ?_ | with_reducible refine XOs.go ?_ | with_reducible refine XDs.go ?_ | with_reducible refine OK.go ?_); (first | refine TT ?_ | (apply Ns.sc ⟨rfl, rfl⟩ rfl; intro hg) | (refine OK.tr ?_; refine TT ?_)); (try simp only [HC] at hg))
    | with_reducible exact rfl | exact ⟨rfl, rfl, rfl⟩
    | ((with_reducible refine Gd.go ?_); refine Gd.on (fun hg => ?_) (fun hg => ?_) <;> refine TG ?_ <;> (try simp only [HC] at hg))
    | ((with_reducible refine Fin.go ?_); first | (refine Fin.p ?_; first | exact FT | (try refine TT ?_; try simp only [LF])) | refine Fin.a0 ?_ | refine Fin.a ?_ | refine Fin.ni ?_ | refine Fin.v ?_ ?_ | refine Fin.r ?_ ?_ | exact Fin.th | (refine Fin.t ?_; try simp only [AV.sl.injEq]))
    | (refine And.go ?_; refine AndI ?_)
    | fail)
  all_goals exact ⟨rfl, rfl⟩
/-- A link that is one. -/
def isLnk (x : UInt8 × UInt8) : Bool := if x.1 = 0 then isSnd x.2 else isSnd x.1 && (x.2 == 0 || x.2 == x.1 || isObs x.1 && swapV x.1 == x.2)
def C_isLink (P : Program) (k : Nat) : Prop := ∀ x : UInt8 × UInt8, RunsF P k [.agg (Dat.row x)] (.bool (isLnk x))
/-- impl.isLink -/
def i_isLink.x (c_i_IsSound c_i_SwapVoice : Nat) : XCode :=
  (.seq
    (.reg [⟨(some 1), .boxF, [.t 0], none⟩,
      ⟨(some 2), .mv, [.k (.bool false)], none⟩] [1])
    (.seq
      (.block 0
        (.seq
          (.reg [⟨(some 6), (.fldA 0), [.t 1], none⟩,
            ⟨(some 7), (.ld none), [.t 6], none⟩,
            ⟨(some 8), (.bin .eql), [.t 7, .k (.int .u8 0)], none⟩,
            ⟨(some 5), .mv, [.t 8], none⟩] [1, 5])
          (.cond (.t 5)
            (.seq
              (.reg [⟨(some 9), (.fldA 1), [.t 1], none⟩,
                ⟨(some 10), (.ld none), [.t 9], none⟩,
                ⟨(some 11), .call, [.k (.fn c_i_IsSound []), .t 10], none⟩,
                ⟨(some 2), .mv, [.t 11], none⟩] [2])
              .ret)
            (.seq
              (.reg [⟨(some 13), (.fldA 0), [.t 1], none⟩,
                ⟨(some 14), (.ld none), [.t 13], none⟩,
                ⟨(some 15), .call, [.k (.fn c_i_IsSound []), .t 14], none⟩,
                ⟨(some 16), (.un .not), [.t 15], none⟩,
                ⟨(some 12), .mv, [.t 16], none⟩] [1, 12])
              (.cond (.t 12)
                (.seq
                  (.reg [⟨(some 2), .mv, [.k (.bool false)], none⟩] [2])
                  .ret)
                (.seq
                  (.reg (flatNs none (nl [.op (some 18) (.fldA 1) [.t 1], .op (some 19) (.ld none) [.t 18], .op (some 20) (.bin .eql) [.t 19, .k (.int .u8 0)], .op (some 21) .mv [.t 20], .sc 21 false (nl [.op (some 22) (.fldA 1) [.t 1], .op (some 23) (.ld none) [.t 22], .op (some 24) (.fldA 0) [.t 1], .op (some 25) (.ld none) [.t 24], .op (some 26) (.bin .eql) [.t 23, .t 25]]) (.t 26) (some 27), .op (some 17) .mv [.t 27]])) [1, 17])
                  (.cond (.t 17)
                    (.seq
                      (.reg [⟨(some 2), .mv, [.k (.bool true)], none⟩] [2])
                      .ret)
                    .skip)))))))
      (.seq
        (.reg [⟨(some 29), (.fldA 0), [.t 1], none⟩,
          ⟨(some 30), (.ld none), [.t 29], none⟩,
          ⟨(some 31), .call, [.k (.fn c_i_SwapVoice []), .t 30], none⟩,
          ⟨(some 28), .mv, [.t 31], none⟩,
          ⟨(some 32), (.ext 0), [.t 28], none⟩,
          ⟨(some 33), (.ext 1), [.t 28], none⟩,
          ⟨(some 3), .mv, [.t 32], none⟩,
          ⟨(some 4), .mv, [.t 33], none⟩] [1, 3, 4])
        (.seq
          (.reg (flatNs none (nl [.op (some 34) .mv [.t 4], .op (some 35) .mv [.t 34], .sc 35 true (nl [.op (some 36) .mv [.t 3], .op (some 37) (.fldA 1) [.t 1], .op (some 38) (.ld none) [.t 37], .op (some 39) (.bin .eql) [.t 36, .t 38]]) (.t 39) (some 40), .op (some 2) .mv [.t 40]])) [2])
          .ret))))
def i_isLink.F : Cfg := ⟨fun _ => 0, fun r => match r with | 0 => [1] | 1 => [1, 5] | 2 => [2] | 3 => [1, 12] | 4 => [2] | 5 => [1, 17] | 6 => [2] | 7 => [1, 3, 4] | 8 => [2] | _ => []⟩
def i_isLink.X (c_i_IsSound c_i_SwapVoice : Nat) : FX := ⟨41, [.tmp 2], i_isLink.F, i_isLink.x c_i_IsSound c_i_SwapVoice⟩

theorem i_isLink.ok {P : Program} {k c_i_IsSound c_i_SwapVoice : Nat} (hk : Has P k (i_isLink.X c_i_IsSound c_i_SwapVoice)) (h1 : C_IsSound P c_i_IsSound) (h2 : C_SwapVoice P c_i_SwapVoice) : C_isLink P k := by
  intro x n H
  refine S.ofX hk rfl fun hB fn hr => ?_
  unfold i_isLink.x
  repeat' (first
    | ((with_reducible refine S.go ?_); first | refine S.seq ?_ | refine S.skip ?_ | refine S.block ?_ | refine S.inBlock ?_ | refine S.exit rfl ?_ | refine S.regN ?_ | refine S.reg ?_ | refine S.drw hk.mo (by kernel_rfl) ?_ | (refine S.cond rfl (fun hc => ?_) (fun hc => ?_) <;> try simp only [HC] at hc) | refine S.retH hr rfl ?_ | refine S.finH hr rfl ?_ | (refine S.retK hr ?_; refine TR ?_) | fail)
    | ((first | with_reducible refine Ns.go ?_ | with_reducible refine XOs.go ?_ | with_reducible refine XDs.go ?_ | with_reducible refine OK.go ?_); (first | refine TT ?_ | (apply Ns.sc ⟨rfl, rfl⟩ rfl; intro hg) | (refine OK.tr ?_; refine TT ?_)); (try simp only [HC] at hg))
    | with_reducible exact rfl | exact ⟨rfl, rfl, rfl⟩
    | ((with_reducible refine RunsT.go ?_); first | refine RunsF.apf (h1 _) rfl ?_ | refine RunsF.apf (h2 _) rfl ?_ | fail)
    | ((with_reducible refine RunsD.go ?_); first | refine RunsF.apd (h1 _) rfl ?_ | refine RunsF.apd (h2 _) rfl ?_ | fail)
    | ((with_reducible refine Gd.go ?_); refine Gd.on (fun hg => ?_) (fun hg => ?_) <;> refine TG ?_ <;> (try simp only [HC] at hg))
    | ((with_reducible refine Fin.go ?_); first | (refine Fin.p ?_; first | exact FT | (try refine TT ?_; try simp only [LF])) | refine Fin.a0 ?_ | refine Fin.a ?_ | refine Fin.ni ?_ | refine Fin.v ?_ ?_ | refine Fin.r ?_ ?_ | exact Fin.th | (refine Fin.t ?_; try simp only [AV.sl.injEq]))
    | (refine And.go ?_; refine AndI ?_)
    | fail)
  all_goals (try clear ih); (try clear ih2); (try clear hr hk hB); (try dsimp only)
  all_goals (try simp only [isLnk] at *)
  all_goals first | rfl | omega | (simp_all; done) | (simp_all; omega) | (rw [Bool.eq_iff_iff]; simp_all; done) | (rw [Bool.eq_iff_iff]; simp_all; omega) | grind | (rw [Bool.eq_iff_iff]; grind)
end Go.M01

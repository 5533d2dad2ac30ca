/- Marks of ends, of steps, of paths; sums of marks. Over any program. -/
import Derived.Test.YtobhjgipeepmoaaM02
namespace Go.M03
open Go.Ab Go.Lib01 Go.Lib03 Go.M01 Go.M02
set_option linter.unusedVariables false
set_option linter.unusedSimpArgs false
set_option maxRecDepth 2000

def nOnset : List UInt8 := [111, 110, 115, 101, 116]
def nNocoda : List UInt8 := [110, 111, 99, 111, 100, 97]
def nCluster : List UInt8 := [99, 108, 117, 115, 116, 101, 114]
def nVoice : List UInt8 := [118, 111, 105, 99, 101]
def nFinal : List UInt8 := [102, 105, 110, 97, 108]
def nNasal : List UInt8 := [110, 97, 115, 97, 108]
def nMax : List UInt8 := [109, 97, 120]
def nDep : List UInt8 := [100, 101, 112]
def nIdent : List UInt8 := [105, 100, 101, 110, 116]
def b01 (b : Bool) : Int := if b then 1 else 0

/-- One for each name of which something holds. -/
def marksB (h : List UInt8 → Bool) (names : List (List UInt8)) : List Int := names.map fun nm => b01 (h nm)
theorem marksB_len (h : List UInt8 → Bool) (names : List (List UInt8)) : (marksB h names).length = names.length := by simp [marksB]
theorem marksB_step {h : List UInt8 → Bool} {names : List (List UInt8)} {i : Nat} (hi : i < names.length) : marksB h (names.take (i + 1)) = marksB h (names.take i) ++ [b01 (h (names.getD i default))] := by
  rw [take_succ _ _ hi]; simp [marksB]
theorem marksB_end {h : List UInt8 → Bool} {names : List (List UInt8)} {i : Nat} (hi : names.length ≤ i) : marksB h (names.take i) = marksB h names := by
  rw [List.take_of_length_le hi]
def C_marksBy (P : Program) (k : Nat) : Prop := ∀ (names : List (List UInt8)) (f : FuncId) (cap : List AV) (h : List UInt8 → Bool), names.length ≤ 4294967295 → (∀ nm, RunsF P f (.str nm :: cap) (.bool (h nm))) →
  RunsO P k [.sl (enc names), .fn f cap] (.sl (enc (marksB h names)))
/-- impl.marksBy -/
def i_marksBy.x : XCode :=
  (.seq
    (.reg [⟨(some 4), .mv, [.k (.nilsl)], none⟩] [0, 1])
    (.seq
      (.reg [⟨(some 8), (.bsl 1 1), [], none⟩,
        ⟨(some 5), .mv, [.t 8], none⟩] [0, 1, 5])
      (.seq
        (.seq
          (.reg [⟨(some 9), .mv, [.t 0], none⟩,
            ⟨(some 10), .lenL, [.t 9], none⟩,
            ⟨(some 11), .mv, [.k (.int .i64 0)], none⟩] [1, 5, 9, 10, 11])
          (.block 0
            (.loop
              (.seq
                (.reg [⟨(some 12), (.bin .lss), [.t 11, .t 10], none⟩] [1, 5, 9, 10, 11, 12])
                (.seq
                  (.cond (.t 12)
                    .skip
                    (.exit 0))
                  (.seq
                    (.block 1
                      (.seq
                        (.reg [⟨(some 13), (.idxA 1), [.t 9, .t 11], none⟩,
                          ⟨(some 14), (.ld none), [.t 13], none⟩,
                          ⟨(some 7), .mv, [.t 14], none⟩] [1, 5, 7, 9, 10, 11])
                        (.seq
                          (.reg [⟨(some 15), .mv, [.t 1], none⟩,
                            ⟨(some 16), .mv, [.t 7], none⟩,
                            ⟨(some 17), .call, [.t 15, .t 16], none⟩] [1, 5, 9, 10, 11, 17])
                          (.cond (.t 17)
                            (.reg [⟨(some 18), .mv, [.t 5], none⟩,
                              ⟨(some 19), (.bsl 0 1), [.k (.int .i64 1)], none⟩,
                              ⟨(some 20), (.app 1 8), [.t 18, .t 19], none⟩,
                              ⟨(some 5), .mv, [.t 20], none⟩] [1, 5, 9, 10, 11])
                            (.reg [⟨(some 21), .mv, [.t 5], none⟩,
                              ⟨(some 22), (.bsl 0 1), [.k (.int .i64 0)], none⟩,
                              ⟨(some 23), (.app 1 8), [.t 21, .t 22], none⟩,
                              ⟨(some 5), .mv, [.t 23], none⟩] [1, 5, 9, 10, 11])))))
                    (.reg [⟨(some 24), (.bin .add), [.t 11, .k (.int .i64 1)], none⟩,
                      ⟨(some 11), .mv, [.t 24], none⟩] [1, 5, 9, 10, 11])))))))
        (.seq
          (.reg [⟨(some 25), .mv, [.t 5], none⟩,
            ⟨(some 4), .mv, [.t 25], none⟩] [4])
          .ret))))
def i_marksBy.F : Cfg := ⟨fun d => if d = 8 then 1 else 0, fun r => match r with | 0 => [0, 1] | 1 => [0, 1, 5] | 2 => [1, 5, 9, 10, 11] | 3 => [1, 5, 9, 10, 11, 12] | 4 => [1, 5, 7, 9, 10, 11] | 5 => [1, 5, 9, 10, 11, 17] | 6 => [1, 5, 9, 10, 11] | 7 => [1, 5, 9, 10, 11] | 8 => [1, 5, 9, 10, 11] | 9 => [4] | _ => []⟩
def i_marksBy.X : FX := ⟨26, [.tmp 4], i_marksBy.F, i_marksBy.x⟩

theorem i_marksBy.ok {P : Program} {k : Nat} (hk : Has P k (i_marksBy.X)) : C_marksBy P k := by
  intro names f cap h hl h0 n H
  refine S.ofX hk rfl fun hB fn hr => ?_
  unfold i_marksBy.x
  repeat' (first
    | ((with_reducible refine S.go ?_); first | refine S.seq ?_ | refine S.skip ?_ | refine S.block ?_ | refine S.inBlock ?_ | refine S.exit rfl ?_ | refine S.regN ?_ | refine S.reg ?_ | refine S.drw hk.mo (by kernel_rfl) ?_ | (refine S.cond rfl (fun hc => ?_) (fun hc => ?_) <;> try simp only [HC] at hc) | refine S.retH hr rfl ?_ | refine S.finH hr rfl ?_ | (refine S.retK hr ?_; refine TR ?_) | fail)
    | ((first | with_reducible refine Ns.go ?_ | with_reducible refine XOs.go ?_ | with_reducible refine XDs.go ?_ | with_reducible refine OK.go ?_); (first | refine TT ?_ | (apply Ns.sc ⟨rfl, rfl⟩ rfl; intro hg) | (refine OK.tr ?_; refine TT ?_)); (try simp only [HC] at hg))
    | with_reducible exact rfl | exact ⟨rfl, rfl, rfl⟩
    | ((with_reducible refine Gd.go ?_); refine Gd.on (fun hg => ?_) (fun hg => ?_) <;> refine TG ?_ <;> (try simp only [HC] at hg))
    | ((with_reducible refine Fin.go ?_); first | (refine Fin.p ?_; first | exact FT | (try refine TT ?_; try simp only [LF])) | refine Fin.a0 ?_ | refine Fin.a ?_ | refine Fin.ni ?_ | refine Fin.v ?_ ?_ | refine Fin.r ?_ ?_ | exact Fin.th | (refine Fin.t ?_; try simp only [AV.sl.injEq]))
    | (refine And.go ?_; refine AndI ?_)
    | fail)
  refine S.loopV (σ := Nat × (List Int)) [1, 5, 9, 10, 11] (fun s => [(5, .acc n 1 (enc s.2)), (11, .int .i64 (s.1 : Int))]) (fun s => s.1 ≤ names.length ∧ s.2 = marksB h (names.take s.1) ∧ s.2.length = s.1) (fun s => n + 1) (fun s => (n, .tok 1 s.2.length) :: H) (fun s => names.length - s.1) (0, []) (⟨by omega, ?_, ?_⟩) ?_
  · first | rfl | omega | (simp; done) | (simp; omega) | skip
  · first | rfl | omega | (simp; done) | (simp; omega) | skip
  rintro ⟨i, out⟩ ⟨hi1, hi2, hi3⟩ ih
  try dsimp only at hi1 hi2 hi3
  repeat' (first
    | ((with_reducible refine S.go ?_); first | refine S.seq ?_ | refine S.skip ?_ | refine S.block ?_ | refine S.inBlock ?_ | refine S.exit rfl ?_ | refine S.regN ?_ | refine S.reg ?_ | refine S.drw hk.mo (by kernel_rfl) ?_ | refine S.ag (ih ((i + 1, _)) ?_ ?_) | (refine S.cond rfl (fun hc => ?_) (fun hc => ?_) <;> try simp only [HC] at hc) | refine S.retH hr rfl ?_ | refine S.finH hr rfl ?_ | (refine S.retK hr ?_; refine TR ?_) | fail)
    | ((first | with_reducible refine Ns.go ?_ | with_reducible refine XOs.go ?_ | with_reducible refine XDs.go ?_ | with_reducible refine OK.go ?_); (first | refine TT ?_ | (apply Ns.sc ⟨rfl, rfl⟩ rfl; intro hg) | (refine OK.tr ?_; refine TT ?_)); (try simp only [HC] at hg))
    | with_reducible exact rfl | exact ⟨rfl, rfl, rfl⟩
    | ((with_reducible refine RunsT.go ?_); first | refine RunsF.ap (h0 _) ?_ | fail)
    | ((with_reducible refine Gd.go ?_); refine Gd.on (fun hg => ?_) (fun hg => ?_) <;> refine TG ?_ <;> (try simp only [HC] at hg))
    | ((with_reducible refine Fin.go ?_); first | (refine Fin.p ?_; first | exact FT | (try refine TT ?_; try simp only [LF])) | refine Fin.a0 ?_ | refine Fin.a ?_ | refine Fin.ni ?_ | refine Fin.v ?_ ?_ | refine Fin.r ?_ ?_ | exact Fin.th | (refine Fin.t ?_; try simp only [AV.sl.injEq]))
    | (refine And.go ?_; refine AndI ?_)
    | fail)
  all_goals (try clear ih)
  all_goals (try dsimp only)
  all_goals (repeat' apply And.intro)
  all_goals first | omega | (simp only [ZL]; omega) | skip
  all_goals first | (rw [marksB_step (by omega), ← hi2]; rw [hc]; rfl) | (rw [hi2, marksB_end (by omega)])

def endB (last : UInt8) (nm : List UInt8) : Bool := nm == nNocoda && isCon last || nm == nFinal && isVoi last
def endM (names : List (List UInt8)) (last : UInt8) : List Int := if areLoc names && isLastB last then marksB (endB last) names else []
def C_endB (P : Program) (k : Nat) : Prop := ∀ (nm : List UInt8) (last : UInt8), RunsF P k [.str nm, .fptr [.int .u8 (last.toNat : Int)]] (.bool (endB last nm))
/-- impl.EndMarks$1 -/
def i_EndMarks_1.x (c_i_isConsonant c_i_isVoiced : Nat) : XCode :=
  (.seq
    (.reg [⟨(some 3), .mv, [.k (.bool false)], none⟩] [0, 1])
    (.seq
      (.reg (flatNs none (nl [.op (some 4) .mv [.t 0], .op (some 5) (.bin .eql) [.t 4, .k (.str [110, 111, 99, 111, 100, 97])], .op (some 6) .mv [.t 5], .sc 6 true (nl [.op (some 7) (.ld none) [.t 1], .op (some 8) .call [.k (.fn c_i_isConsonant []), .t 7]]) (.t 8) (some 9), .op (some 10) .mv [.t 9], .sc 10 false (nl [.op (some 11) .mv [.t 0], .op (some 12) (.bin .eql) [.t 11, .k (.str [102, 105, 110, 97, 108])], .op (some 13) .mv [.t 12], .sc 13 true (nl [.op (some 14) (.ld none) [.t 1], .op (some 15) .call [.k (.fn c_i_isVoiced []), .t 14]]) (.t 15) (some 16)]) (.t 16) (some 17), .op (some 3) .mv [.t 17]])) [3])
      .ret))
def i_EndMarks_1.F : Cfg := ⟨fun _ => 0, fun r => match r with | 0 => [0, 1] | 1 => [3] | _ => []⟩
def i_EndMarks_1.X (c_i_isConsonant c_i_isVoiced : Nat) : FX := ⟨18, [.tmp 3], i_EndMarks_1.F, i_EndMarks_1.x c_i_isConsonant c_i_isVoiced⟩

theorem i_EndMarks_1.ok {P : Program} {k c_i_isConsonant c_i_isVoiced : Nat} (hk : Has P k (i_EndMarks_1.X c_i_isConsonant c_i_isVoiced)) (h1 : CB isCon P c_i_isConsonant) (h2 : CB isVoi P c_i_isVoiced) : C_endB P k := by
  intro nm last n H
  refine S.ofX hk rfl fun hB fn hr => ?_
  unfold i_EndMarks_1.x
  repeat' (first
    | ((with_reducible refine S.go ?_); first | refine S.seq ?_ | refine S.skip ?_ | refine S.block ?_ | refine S.inBlock ?_ | refine S.exit rfl ?_ | refine S.regN ?_ | refine S.reg ?_ | refine S.drw hk.mo (by kernel_rfl) ?_ | (refine S.cond rfl (fun hc => ?_) (fun hc => ?_) <;> try simp only [HC] at hc) | refine S.retH hr rfl ?_ | refine S.finH hr rfl ?_ | (refine S.retK hr ?_; refine TR ?_) | fail)
    | ((first | with_reducible refine Ns.go ?_ | with_reducible refine XOs.go ?_ | with_reducible refine XDs.go ?_ | with_reducible refine OK.go ?_); (first | refine TT ?_ | (apply Ns.sc ⟨rfl, rfl⟩ rfl; intro hg) | (refine OK.tr ?_; refine TT ?_)); (try simp only [HC] at hg))
    | with_reducible exact rfl | exact ⟨rfl, rfl, rfl⟩
    | ((with_reducible refine RunsT.go ?_); first | refine RunsF.apf (h1 _) rfl ?_ | refine RunsF.apf (h2 _) rfl ?_ | fail)
    | ((with_reducible refine RunsD.go ?_); first | refine RunsF.apd (h1 _) rfl ?_ | refine RunsF.apd (h2 _) rfl ?_ | fail)
    | ((with_reducible refine Gd.go ?_); refine Gd.on (fun hg => ?_) (fun hg => ?_) <;> refine TG ?_ <;> (try simp only [HC] at hg))
    | ((with_reducible refine Fin.go ?_); first | (refine Fin.p ?_; first | exact FT | (try refine TT ?_; try simp only [LF])) | refine Fin.a0 ?_ | refine Fin.a ?_ | refine Fin.ni ?_ | refine Fin.v ?_ ?_ | refine Fin.r ?_ ?_ | exact Fin.th | (refine Fin.t ?_; try simp only [AV.sl.injEq]))
    | (refine And.go ?_; refine AndI ?_)
    | fail)
  all_goals (try clear ih); (try clear ih2); (try clear hr hk hB); (try dsimp only)
  all_goals (try simp only [endB, nNocoda, nFinal] at *)
  all_goals first | rfl | omega | (simp_all; done) | (simp_all; omega) | (rw [Bool.eq_iff_iff]; simp_all; done) | (rw [Bool.eq_iff_iff]; simp_all; omega) | grind | (rw [Bool.eq_iff_iff]; grind)
def C_EndMarks (P : Program) (k : Nat) : Prop := ∀ (names : List (List UInt8)) (last : UInt8), names.length ≤ 4294967295 → RunsO P k [.sl (enc names), .int .u8 (last.toNat : Int)] (.sl (enc (endM names last)))
/-- impl.EndMarks -/
def i_EndMarks.x (c_i_AreLocal c_i_isLast c_i_EndMarks_1 c_i_marksBy : Nat) : XCode :=
  (.seq
    (.reg [⟨(some 3), .boxF, [.t 1], none⟩,
      ⟨(some 4), .mv, [.k (.nilsl)], none⟩] [0, 3])
    (.seq
      (.seq
        (.reg (flatNs none (nl [.op (some 5) .mv [.t 0], .op (some 6) .call [.k (.fn c_i_AreLocal []), .t 5], .op (some 7) (.un .not) [.t 6], .op (some 8) .mv [.t 7], .sc 8 false (nl [.op (some 9) (.ld none) [.t 3], .op (some 10) .call [.k (.fn c_i_isLast []), .t 9], .op (some 11) (.un .not) [.t 10]]) (.t 11) (some 12)])) [0, 3, 12])
        (.cond (.t 12)
          (.seq
            (.reg [⟨(some 4), .mv, [.k (.nilsl)], none⟩] [4])
            .ret)
          .skip))
      (.seq
        (.reg [⟨(some 13), .mv, [.t 0], none⟩,
          ⟨(some 14), (.mkfn c_i_EndMarks_1), [.t 3], none⟩,
          ⟨(some 15), .call, [.k (.fn c_i_marksBy []), .t 13, .t 14], none⟩,
          ⟨(some 4), .mv, [.t 15], none⟩] [4])
        .ret)))
def i_EndMarks.F : Cfg := ⟨fun _ => 0, fun r => match r with | 0 => [0, 3] | 1 => [0, 3, 12] | 2 => [4] | 3 => [4] | _ => []⟩
def i_EndMarks.X (c_i_AreLocal c_i_isLast c_i_EndMarks_1 c_i_marksBy : Nat) : FX := ⟨16, [.tmp 4], i_EndMarks.F, i_EndMarks.x c_i_AreLocal c_i_isLast c_i_EndMarks_1 c_i_marksBy⟩

theorem i_EndMarks.ok {P : Program} {k c_i_AreLocal c_i_isLast c_i_EndMarks_1 c_i_marksBy : Nat} (hk : Has P k (i_EndMarks.X c_i_AreLocal c_i_isLast c_i_EndMarks_1 c_i_marksBy)) (h1 : C_AreLocal P c_i_AreLocal) (h2 : CB isLastB P c_i_isLast) (h3 : C_endB P c_i_EndMarks_1) (h4 : C_marksBy P c_i_marksBy) : C_EndMarks P k := by
  intro names last hl n H
  refine S.ofX hk rfl fun hB fn hr => ?_
  unfold i_EndMarks.x
  repeat' (first
    | ((with_reducible refine S.go ?_); first | refine S.seq ?_ | refine S.skip ?_ | refine S.block ?_ | refine S.inBlock ?_ | refine S.exit rfl ?_ | refine S.regN ?_ | refine S.reg ?_ | refine S.drw hk.mo (by kernel_rfl) ?_ | (refine S.cond rfl (fun hc => ?_) (fun hc => ?_) <;> try simp only [HC] at hc) | refine S.retH hr rfl ?_ | refine S.finH hr rfl ?_ | (refine S.retK hr ?_; refine TR ?_) | fail)
    | ((first | with_reducible refine Ns.go ?_ | with_reducible refine XOs.go ?_ | with_reducible refine XDs.go ?_ | with_reducible refine OK.go ?_); (first | refine TT ?_ | (apply Ns.sc ⟨rfl, rfl⟩ rfl; intro hg) | (refine OK.tr ?_; refine TT ?_)); (try simp only [HC] at hg))
    | with_reducible exact rfl | exact ⟨rfl, rfl, rfl⟩
    | ((with_reducible refine RunsT.go ?_); first | refine RunsF.apf (h1 _ (by omega)) rfl ?_ | refine RunsF.apf (h2 _) rfl ?_ | fail)
    | ((with_reducible refine RunsD.go ?_); first | refine RunsF.apd (h1 _ (by omega)) rfl ?_ | refine RunsF.apd (h2 _) rfl ?_ | fail)
    | (refine RunsO.apT (h4 _ _ _ (endB last) hl (fun nm => h3 nm last)) rfl ?_; intro v n' N ht hN; try refine TT ?_)
    | ((with_reducible refine Gd.go ?_); refine Gd.on (fun hg => ?_) (fun hg => ?_) <;> refine TG ?_ <;> (try simp only [HC] at hg))
    | ((with_reducible refine Fin.go ?_); first | (refine Fin.p ?_; first | exact FT | (try refine TT ?_; try simp only [LF])) | refine Fin.a0 ?_ | refine Fin.a ?_ | refine Fin.ni ?_ | refine Fin.v ?_ ?_ | refine Fin.r ?_ ?_ | exact Fin.th | (refine Fin.t ?_; try simp only [AV.sl.injEq]))
    | (refine And.go ?_; refine AndI ?_)
    | fail)
  · rw [endM, if_neg (by rcases hc with h | h <;> simp [h])]
  · rw [endM, if_pos (by simpa using hc)]
  all_goals trace_state

theorem vow_eq (c : UInt8) : (c != 0 && hasF c 0) = hasF c 0 := by
  cases h : hasF c 0
  · simp
  · have : c ≠ 0 := by rintro rfl; exact absurd (hasF_snd h) (by decide)
    simp [this]
theorem con_eq {c : UInt8} (h : isLastB c = true) : (c != 0 && !hasF c 0) = isCon c := by
  by_cases hc : c = 0
  · subst hc; rfl
  · have hs : isSnd c = true := by simpa [isLastB, hc] using h
    simp [isCon, hc, hs]
theorem voi_eq (c : UInt8) : (c != 0 && isVoi c) = isVoi c := by
  by_cases hc : c = 0
  · subst hc; rfl
  · simp [hc]
theorem vls_eq (c : UInt8) : (c == 112 || c == 116) = isVls c := by
  rw [Bool.eq_iff_iff]
  simp only [isVls, isObs, hasF, Bool.or_eq_true, beq_iff_eq, Bool.and_eq_true, Bool.not_eq_true', if_neg (show ¬(1 : Int) = 0 by decide), if_true, Bool.or_eq_false_iff, beq_eq_false_iff_ne]
  constructor
  · rintro (rfl | rfl) <;> decide
  · rintro ⟨((rfl | rfl) | rfl) | rfl, h⟩ <;> simp at h ⊢
theorem lnk_out {x : Link} (h : isLnk x = true) : isLastB x.2 = true := by
  rw [lnk_form] at h
  simp only [isLastB]
  simp at h ⊢
  by_cases h2 : x.2 = 0
  · exact .inl h2
  · exact .inr (h.1.1.2.resolve_left h2)

def stepB (last : UInt8) (x : Link) (nm : List UInt8) : Bool :=
  if nm = nOnset then hasF x.2 0 && !isCon last else if nm = nNocoda ∨ nm = nCluster then isCon x.2 && isCon last else if nm = nVoice then isVoi x.2 else if nm = nNasal then isVls x.2 && last == 110 else if nm = nMax then x.2 == 0
  else if nm = nDep then x.1 == 0 else if nm = nIdent then x.1 != 0 && (x.2 != 0 && x.1 != x.2) else false
def C_stepB (P : Program) (k : Nat) : Prop := ∀ (nm : List UInt8) (last : UInt8) (x : Link), RunsF P k [.str nm, .fptr (Dat.row x), .fptr [.int .u8 (last.toNat : Int)]] (.bool (stepB last x nm))
/-- impl.StepMarks$1 -/
def i_StepMarks_1.x (c_i_isVowel c_i_isConsonant c_i_isVoiced c_i_isVoiceless : Nat) : XCode :=
  (.seq
    (.reg [⟨(some 4), .mv, [.k (.bool false)], none⟩] [0, 1, 2])
    (.seq
      (.seq
        (.reg [⟨(some 5), .mv, [.t 0], none⟩] [1, 2, 5])
        (.block 0
          (.seq
            (.reg [⟨(some 7), (.bin .eql), [.t 5, .k (.str [111, 110, 115, 101, 116])], none⟩,
              ⟨(some 6), .mv, [.t 7], none⟩] [1, 2, 5, 6])
            (.cond (.t 6)
              (.seq
                (.reg (flatNs none (nl [.op (some 8) (.fldA 1) [.t 1], .op (some 9) (.ld none) [.t 8], .op (some 10) .call [.k (.fn c_i_isVowel []), .t 9], .op (some 11) .mv [.t 10], .sc 11 true (nl [.op (some 12) (.ld none) [.t 2], .op (some 13) .call [.k (.fn c_i_isConsonant []), .t 12], .op (some 14) (.un .not) [.t 13]]) (.t 14) (some 15), .op (some 4) .mv [.t 15]])) [4])
                .ret)
              (.seq
                (.seq
                  (.reg [⟨(some 17), (.bin .eql), [.t 5, .k (.str [110, 111, 99, 111, 100, 97])], none⟩,
                    ⟨(some 16), .mv, [.t 17], none⟩] [1, 2, 5, 16])
                  (.cond (.t 16)
                    .skip
                    (.reg [⟨(some 18), (.bin .eql), [.t 5, .k (.str [99, 108, 117, 115, 116, 101, 114])], none⟩,
                      ⟨(some 16), .mv, [.t 18], none⟩] [1, 2, 5, 16])))
                (.cond (.t 16)
                  (.seq
                    (.reg (flatNs none (nl [.op (some 19) (.fldA 1) [.t 1], .op (some 20) (.ld none) [.t 19], .op (some 21) .call [.k (.fn c_i_isConsonant []), .t 20], .op (some 22) .mv [.t 21], .sc 22 true (nl [.op (some 23) (.ld none) [.t 2], .op (some 24) .call [.k (.fn c_i_isConsonant []), .t 23]]) (.t 24) (some 25), .op (some 4) .mv [.t 25]])) [4])
                    .ret)
                  (.seq
                    (.reg [⟨(some 27), (.bin .eql), [.t 5, .k (.str [118, 111, 105, 99, 101])], none⟩,
                      ⟨(some 26), .mv, [.t 27], none⟩] [1, 2, 5, 26])
                    (.cond (.t 26)
                      (.seq
                        (.reg [⟨(some 28), (.fldA 1), [.t 1], none⟩,
                          ⟨(some 29), (.ld none), [.t 28], none⟩,
                          ⟨(some 30), .call, [.k (.fn c_i_isVoiced []), .t 29], none⟩,
                          ⟨(some 4), .mv, [.t 30], none⟩] [4])
                        .ret)
                      (.seq
                        (.reg [⟨(some 32), (.bin .eql), [.t 5, .k (.str [110, 97, 115, 97, 108])], none⟩,
                          ⟨(some 31), .mv, [.t 32], none⟩] [1, 2, 5, 31])
                        (.cond (.t 31)
                          (.seq
                            (.reg (flatNs none (nl [.op (some 33) (.fldA 1) [.t 1], .op (some 34) (.ld none) [.t 33], .op (some 35) .call [.k (.fn c_i_isVoiceless []), .t 34], .op (some 36) .mv [.t 35], .sc 36 true (nl [.op (some 37) (.ld none) [.t 2], .op (some 38) (.bin .eql) [.t 37, .k (.int .u8 110)]]) (.t 38) (some 39), .op (some 4) .mv [.t 39]])) [4])
                            .ret)
                          (.seq
                            (.reg [⟨(some 41), (.bin .eql), [.t 5, .k (.str [109, 97, 120])], none⟩,
                              ⟨(some 40), .mv, [.t 41], none⟩] [1, 5, 40])
                            (.cond (.t 40)
                              (.seq
                                (.reg [⟨(some 42), (.fldA 1), [.t 1], none⟩,
                                  ⟨(some 43), (.ld none), [.t 42], none⟩,
                                  ⟨(some 44), (.bin .eql), [.t 43, .k (.int .u8 0)], none⟩,
                                  ⟨(some 4), .mv, [.t 44], none⟩] [4])
                                .ret)
                              (.seq
                                (.reg [⟨(some 46), (.bin .eql), [.t 5, .k (.str [100, 101, 112])], none⟩,
                                  ⟨(some 45), .mv, [.t 46], none⟩] [1, 5, 45])
                                (.cond (.t 45)
                                  (.seq
                                    (.reg [⟨(some 47), (.fldA 0), [.t 1], none⟩,
                                      ⟨(some 48), (.ld none), [.t 47], none⟩,
                                      ⟨(some 49), (.bin .eql), [.t 48, .k (.int .u8 0)], none⟩,
                                      ⟨(some 4), .mv, [.t 49], none⟩] [4])
                                    .ret)
                                  (.seq
                                    (.reg [⟨(some 51), (.bin .eql), [.t 5, .k (.str [105, 100, 101, 110, 116])], none⟩,
                                      ⟨(some 50), .mv, [.t 51], none⟩] [1, 50])
                                    (.cond (.t 50)
                                      (.seq
                                        (.reg (flatNs none (nl [.op (some 52) (.fldA 0) [.t 1], .op (some 53) (.ld none) [.t 52], .op (some 54) (.bin .neq) [.t 53, .k (.int .u8 0)], .op (some 55) .mv [.t 54], .sc 55 true (nl [.op (some 56) (.fldA 1) [.t 1], .op (some 57) (.ld none) [.t 56], .op (some 58) (.bin .neq) [.t 57, .k (.int .u8 0)]]) (.t 58) (some 59), .op (some 60) .mv [.t 59], .sc 60 true (nl [.op (some 61) (.fldA 0) [.t 1], .op (some 62) (.ld none) [.t 61], .op (some 63) (.fldA 1) [.t 1], .op (some 64) (.ld none) [.t 63], .op (some 65) (.bin .neq) [.t 62, .t 64]]) (.t 65) (some 66), .op (some 4) .mv [.t 66]])) [4])
                                        .ret)
                                      .skip))))))))))))))))
      (.seq
        (.reg [⟨(some 4), .mv, [.k (.bool false)], none⟩] [4])
        .ret)))
def i_StepMarks_1.F : Cfg := ⟨fun _ => 0, fun r => match r with | 0 => [0, 1, 2] | 1 => [1, 2, 5] | 2 => [1, 2, 5, 6] | 3 => [4] | 4 => [1, 2, 5, 16] | 5 => [1, 2, 5, 16] | 6 => [4] | 7 => [1, 2, 5, 26] | 8 => [4] | 9 => [1, 2, 5, 31] | 10 => [4] | 11 => [1, 5, 40] | 12 => [4] | 13 => [1, 5, 45] | 14 => [4] | 15 => [1, 50] | 16 => [4] | 17 => [4] | _ => []⟩
def i_StepMarks_1.X (c_i_isVowel c_i_isConsonant c_i_isVoiced c_i_isVoiceless : Nat) : FX := ⟨67, [.tmp 4], i_StepMarks_1.F, i_StepMarks_1.x c_i_isVowel c_i_isConsonant c_i_isVoiced c_i_isVoiceless⟩

set_option maxHeartbeats 1000000 in
theorem i_StepMarks_1.ok {P : Program} {k c_i_isVowel c_i_isConsonant c_i_isVoiced c_i_isVoiceless : Nat} (hk : Has P k (i_StepMarks_1.X c_i_isVowel c_i_isConsonant c_i_isVoiced c_i_isVoiceless)) (h1 : CB (fun c => hasF c 0) P c_i_isVowel) (h2 : CB isCon P c_i_isConsonant) (h3 : CB isVoi P c_i_isVoiced) (h4 : CB isVls P c_i_isVoiceless) : C_stepB P k := by
  intro nm last x n H
  refine S.ofX hk rfl fun hB fn hr => ?_
  unfold i_StepMarks_1.x
  repeat' (first
    | ((with_reducible refine S.go ?_); first | refine S.seq ?_ | refine S.skip ?_ | refine S.block ?_ | refine S.inBlock ?_ | refine S.exit rfl ?_ | refine S.regN ?_ | refine S.reg ?_ | refine S.drw hk.mo (by kernel_rfl) ?_ | (refine S.cond rfl (fun hc => ?_) (fun hc => ?_) <;> try simp only [HC] at hc) | refine S.retH hr rfl ?_ | refine S.finH hr rfl ?_ | (refine S.retK hr ?_; refine TR ?_) | fail)
    | ((first | with_reducible refine Ns.go ?_ | with_reducible refine XOs.go ?_ | with_reducible refine XDs.go ?_ | with_reducible refine OK.go ?_); (first | refine TT ?_ | (apply Ns.sc ⟨rfl, rfl⟩ rfl; intro hg) | (refine OK.tr ?_; refine TT ?_)); (try simp only [HC] at hg))
    | with_reducible exact rfl | exact ⟨rfl, rfl, rfl⟩
    | ((with_reducible refine RunsT.go ?_); first | refine RunsF.apf (h1 _) rfl ?_ | refine RunsF.apf (h2 _) rfl ?_ | refine RunsF.apf (h3 _) rfl ?_ | refine RunsF.apf (h4 _) rfl ?_ | fail)
    | ((with_reducible refine RunsD.go ?_); first | refine RunsF.apd (h1 _) rfl ?_ | refine RunsF.apd (h2 _) rfl ?_ | refine RunsF.apd (h3 _) rfl ?_ | refine RunsF.apd (h4 _) rfl ?_ | fail)
    | ((with_reducible refine Gd.go ?_); refine Gd.on (fun hg => ?_) (fun hg => ?_) <;> refine TG ?_ <;> (try simp only [HC] at hg))
    | ((with_reducible refine Fin.go ?_); first | (refine Fin.p ?_; first | exact FT | (try refine TT ?_; try simp only [LF])) | refine Fin.a0 ?_ | refine Fin.a ?_ | refine Fin.ni ?_ | refine Fin.v ?_ ?_ | refine Fin.r ?_ ?_ | exact Fin.th | (refine Fin.t ?_; try simp only [AV.sl.injEq]))
    | (refine And.go ?_; refine AndI ?_)
    | fail)
  all_goals first | (exfalso; contradiction) | (subst hc; (try simp only [Bool.and_assoc]); rfl) | (simp only [stepB, nOnset, nNocoda, nCluster, nVoice, nNasal, nMax, nDep, nIdent, *, if_false, or_self, Bool.and_assoc])
def stepM (names : List (List UInt8)) (last : UInt8) (x : Link) : List Int := if areLoc names && (isLnk x && isLastB last) then marksB (stepB last x) names else []
def C_StepMarks (P : Program) (k : Nat) : Prop := ∀ (names : List (List UInt8)) (last : UInt8) (x : Link), names.length ≤ 4294967295 → RunsO P k [.sl (enc names), .int .u8 (last.toNat : Int), .agg (Dat.row x)] (.sl (enc (stepM names last x)))
/-- impl.StepMarks -/
def i_StepMarks.x (c_i_AreLocal c_i_isLink c_i_isLast c_i_StepMarks_1 c_i_marksBy : Nat) : XCode :=
  (.seq
    (.reg [⟨(some 4), .boxF, [.t 1], none⟩,
      ⟨(some 5), .boxF, [.t 2], none⟩,
      ⟨(some 6), .mv, [.k (.nilsl)], none⟩] [0, 4, 5])
    (.seq
      (.seq
        (.reg (flatNs none (nl [.op (some 7) .mv [.t 0], .op (some 8) .call [.k (.fn c_i_AreLocal []), .t 7], .op (some 9) (.un .not) [.t 8], .op (some 10) .mv [.t 9], .sc 10 false (nl [.op (some 11) (.ld (some 2)) [.t 5], .op (some 12) .call [.k (.fn c_i_isLink []), .t 11], .op (some 13) (.un .not) [.t 12]]) (.t 13) (some 14), .op (some 15) .mv [.t 14], .sc 15 false (nl [.op (some 16) (.ld none) [.t 4], .op (some 17) .call [.k (.fn c_i_isLast []), .t 16], .op (some 18) (.un .not) [.t 17]]) (.t 18) (some 19)])) [0, 4, 5, 19])
        (.cond (.t 19)
          (.seq
            (.reg [⟨(some 6), .mv, [.k (.nilsl)], none⟩] [6])
            .ret)
          .skip))
      (.seq
        (.reg [⟨(some 20), .mv, [.t 0], none⟩,
          ⟨(some 21), (.mkfn c_i_StepMarks_1), [.t 5, .t 4], none⟩,
          ⟨(some 22), .call, [.k (.fn c_i_marksBy []), .t 20, .t 21], none⟩,
          ⟨(some 6), .mv, [.t 22], none⟩] [6])
        .ret)))
def i_StepMarks.F : Cfg := ⟨fun _ => 0, fun r => match r with | 0 => [0, 4, 5] | 1 => [0, 4, 5, 19] | 2 => [6] | 3 => [6] | _ => []⟩
def i_StepMarks.X (c_i_AreLocal c_i_isLink c_i_isLast c_i_StepMarks_1 c_i_marksBy : Nat) : FX := ⟨23, [.tmp 6], i_StepMarks.F, i_StepMarks.x c_i_AreLocal c_i_isLink c_i_isLast c_i_StepMarks_1 c_i_marksBy⟩

theorem i_StepMarks.ok {P : Program} {k c_i_AreLocal c_i_isLink c_i_isLast c_i_StepMarks_1 c_i_marksBy : Nat} (hk : Has P k (i_StepMarks.X c_i_AreLocal c_i_isLink c_i_isLast c_i_StepMarks_1 c_i_marksBy)) (h1 : C_AreLocal P c_i_AreLocal) (h2 : CB isLastB P c_i_isLast) (h5 : C_isLink P c_i_isLink) (h3 : C_stepB P c_i_StepMarks_1) (h4 : C_marksBy P c_i_marksBy) : C_StepMarks P k := by
  intro names last x hl n H
  refine S.ofX hk rfl fun hB fn hr => ?_
  unfold i_StepMarks.x
  repeat' (first
    | ((with_reducible refine S.go ?_); first | refine S.seq ?_ | refine S.skip ?_ | refine S.block ?_ | refine S.inBlock ?_ | refine S.exit rfl ?_ | refine S.regN ?_ | refine S.reg ?_ | refine S.drw hk.mo (by kernel_rfl) ?_ | (refine S.cond rfl (fun hc => ?_) (fun hc => ?_) <;> try simp only [HC] at hc) | refine S.retH hr rfl ?_ | refine S.finH hr rfl ?_ | (refine S.retK hr ?_; refine TR ?_) | fail)
    | ((first | with_reducible refine Ns.go ?_ | with_reducible refine XOs.go ?_ | with_reducible refine XDs.go ?_ | with_reducible refine OK.go ?_); (first | refine TT ?_ | (apply Ns.sc ⟨rfl, rfl⟩ rfl; intro hg) | (refine OK.tr ?_; refine TT ?_)); (try simp only [HC] at hg))
    | with_reducible exact rfl | exact ⟨rfl, rfl, rfl⟩
    | ((with_reducible refine RunsT.go ?_); first | refine RunsF.apf (h1 _ (by omega)) rfl ?_ | refine RunsF.apf (h2 _) rfl ?_ | refine RunsF.apf (h5 x) rfl ?_ | fail)
    | ((with_reducible refine RunsD.go ?_); first | refine RunsF.apd (h1 _ (by omega)) rfl ?_ | refine RunsF.apd (h2 _) rfl ?_ | refine RunsF.apd (h5 x) rfl ?_ | fail)
    | (refine RunsO.apT (h4 _ _ _ (stepB last x) hl (fun nm => h3 nm last x)) rfl ?_; intro v n' N ht hN; try refine TT ?_)
    | ((with_reducible refine Gd.go ?_); refine Gd.on (fun hg => ?_) (fun hg => ?_) <;> refine TG ?_ <;> (try simp only [HC] at hg))
    | ((with_reducible refine Fin.go ?_); first | (refine Fin.p ?_; first | exact FT | (try refine TT ?_; try simp only [LF])) | refine Fin.a0 ?_ | refine Fin.a ?_ | refine Fin.ni ?_ | refine Fin.v ?_ ?_ | refine Fin.r ?_ ?_ | exact Fin.th | (refine Fin.t ?_; try simp only [AV.sl.injEq]))
    | (refine And.go ?_; refine AndI ?_)
    | fail)
  · rw [stepM, if_neg (by grind)]
  · rw [stepM, if_pos (by grind)]

def C_step (P : Program) (k : Nat) : Prop := ∀ (nm : List UInt8) (last : UInt8) (x : Link), isLnk x = true → isLastB last = true → RunsF P k [.str nm, .int .u8 (last.toNat : Int), .agg (Dat.row x)] (.int .i64 (b01 (stepB last x nm)))
/-- spec.l31Step -/
def s_l31Step.x (c_s_l31Vowel c_s_l31Consonant c_s_l8Voiced : Nat) : XCode :=
  (.seq
    (.reg [⟨(some 5), .boxF, [.t 2], none⟩,
      ⟨(some 6), .mv, [.k (.int .i64 0)], none⟩] [0, 1, 5])
    (.seq
      (.reg [⟨(some 7), .mv, [.k (.bool false)], none⟩] [0, 1, 5, 7])
      (.seq
        (.seq
          (.reg [⟨(some 8), .mv, [.t 0], none⟩] [1, 5, 7, 8])
          (.block 0
            (.seq
              (.reg [⟨(some 10), (.bin .eql), [.t 8, .k (.str [111, 110, 115, 101, 116])], none⟩,
                ⟨(some 9), .mv, [.t 10], none⟩] [1, 5, 7, 8, 9])
              (.cond (.t 9)
                (.reg (flatNs none (nl [.op (some 11) (.fldA 1) [.t 5], .op (some 12) (.ld none) [.t 11], .op (some 13) .call [.k (.fn c_s_l31Vowel []), .t 12], .op (some 14) .mv [.t 13], .sc 14 true (nl [.op (some 15) .mv [.t 1], .op (some 16) .call [.k (.fn c_s_l31Consonant []), .t 15], .op (some 17) (.un .not) [.t 16]]) (.t 17) (some 18), .op (some 7) .mv [.t 18]])) [7])
                (.seq
                  (.seq
                    (.reg [⟨(some 20), (.bin .eql), [.t 8, .k (.str [110, 111, 99, 111, 100, 97])], none⟩,
                      ⟨(some 19), .mv, [.t 20], none⟩] [1, 5, 7, 8, 19])
                    (.cond (.t 19)
                      .skip
                      (.reg [⟨(some 21), (.bin .eql), [.t 8, .k (.str [99, 108, 117, 115, 116, 101, 114])], none⟩,
                        ⟨(some 19), .mv, [.t 21], none⟩] [1, 5, 7, 8, 19])))
                  (.cond (.t 19)
                    (.reg (flatNs none (nl [.op (some 22) (.fldA 1) [.t 5], .op (some 23) (.ld none) [.t 22], .op (some 24) .call [.k (.fn c_s_l31Consonant []), .t 23], .op (some 25) .mv [.t 24], .sc 25 true (nl [.op (some 26) .mv [.t 1], .op (some 27) .call [.k (.fn c_s_l31Consonant []), .t 26]]) (.t 27) (some 28), .op (some 7) .mv [.t 28]])) [7])
                    (.seq
                      (.reg [⟨(some 30), (.bin .eql), [.t 8, .k (.str [118, 111, 105, 99, 101])], none⟩,
                        ⟨(some 29), .mv, [.t 30], none⟩] [1, 5, 7, 8, 29])
                      (.cond (.t 29)
                        (.reg (flatNs none (nl [.op (some 31) (.fldA 1) [.t 5], .op (some 32) (.ld none) [.t 31], .op (some 33) (.bin .neq) [.t 32, .k (.int .u8 0)], .op (some 34) .mv [.t 33], .sc 34 true (nl [.op (some 35) (.fldA 1) [.t 5], .op (some 36) (.ld none) [.t 35], .op (some 37) .call [.k (.fn c_s_l8Voiced []), .t 36]]) (.t 37) (some 38), .op (some 7) .mv [.t 38]])) [7])
                        (.seq
                          (.reg [⟨(some 40), (.bin .eql), [.t 8, .k (.str [110, 97, 115, 97, 108])], none⟩,
                            ⟨(some 39), .mv, [.t 40], none⟩] [1, 5, 7, 8, 39])
                          (.cond (.t 39)
                            (.reg (flatNs none (nl [.op (some 41) .mv [.t 1], .op (some 42) (.bin .eql) [.t 41, .k (.int .u8 110)], .op (some 43) .mv [.t 42], .sc 43 true (nl [.op (some 44) (.fldA 1) [.t 5], .op (some 45) (.ld none) [.t 44], .op (some 46) (.bin .eql) [.t 45, .k (.int .u8 112)], .op (some 47) .mv [.t 46], .sc 47 false (nl [.op (some 48) (.fldA 1) [.t 5], .op (some 49) (.ld none) [.t 48], .op (some 50) (.bin .eql) [.t 49, .k (.int .u8 116)]]) (.t 50) (some 51)]) (.t 51) (some 52), .op (some 7) .mv [.t 52]])) [7])
                            (.seq
                              (.reg [⟨(some 54), (.bin .eql), [.t 8, .k (.str [109, 97, 120])], none⟩,
                                ⟨(some 53), .mv, [.t 54], none⟩] [5, 7, 8, 53])
                              (.cond (.t 53)
                                (.reg [⟨(some 55), (.fldA 1), [.t 5], none⟩,
                                  ⟨(some 56), (.ld none), [.t 55], none⟩,
                                  ⟨(some 57), (.bin .eql), [.t 56, .k (.int .u8 0)], none⟩,
                                  ⟨(some 7), .mv, [.t 57], none⟩] [7])
                                (.seq
                                  (.reg [⟨(some 59), (.bin .eql), [.t 8, .k (.str [100, 101, 112])], none⟩,
                                    ⟨(some 58), .mv, [.t 59], none⟩] [5, 7, 8, 58])
                                  (.cond (.t 58)
                                    (.reg [⟨(some 60), (.fldA 0), [.t 5], none⟩,
                                      ⟨(some 61), (.ld none), [.t 60], none⟩,
                                      ⟨(some 62), (.bin .eql), [.t 61, .k (.int .u8 0)], none⟩,
                                      ⟨(some 7), .mv, [.t 62], none⟩] [7])
                                    (.seq
                                      (.reg [⟨(some 64), (.bin .eql), [.t 8, .k (.str [105, 100, 101, 110, 116])], none⟩,
                                        ⟨(some 63), .mv, [.t 64], none⟩] [5, 7, 63])
                                      (.cond (.t 63)
                                        (.reg (flatNs none (nl [.op (some 65) (.fldA 0) [.t 5], .op (some 66) (.ld none) [.t 65], .op (some 67) (.bin .neq) [.t 66, .k (.int .u8 0)], .op (some 68) .mv [.t 67], .sc 68 true (nl [.op (some 69) (.fldA 1) [.t 5], .op (some 70) (.ld none) [.t 69], .op (some 71) (.bin .neq) [.t 70, .k (.int .u8 0)]]) (.t 71) (some 72), .op (some 73) .mv [.t 72], .sc 73 true (nl [.op (some 74) (.fldA 0) [.t 5], .op (some 75) (.ld none) [.t 74], .op (some 76) (.fldA 1) [.t 5], .op (some 77) (.ld none) [.t 76], .op (some 78) (.bin .neq) [.t 75, .t 77]]) (.t 78) (some 79), .op (some 7) .mv [.t 79]])) [7])
                                        .skip))))))))))))))))
        (.seq
          (.seq
            (.reg [⟨(some 80), .mv, [.t 7], none⟩] [80])
            (.cond (.t 80)
              (.seq
                (.reg [⟨(some 6), .mv, [.k (.int .i64 1)], none⟩] [6])
                .ret)
              .skip))
          (.seq
            (.reg [⟨(some 6), .mv, [.k (.int .i64 0)], none⟩] [6])
            .ret)))))
def s_l31Step.F : Cfg := ⟨fun _ => 0, fun r => match r with | 0 => [0, 1, 5] | 1 => [0, 1, 5, 7] | 2 => [1, 5, 7, 8] | 3 => [1, 5, 7, 8, 9] | 4 => [7] | 5 => [1, 5, 7, 8, 19] | 6 => [1, 5, 7, 8, 19] | 7 => [7] | 8 => [1, 5, 7, 8, 29] | 9 => [7] | 10 => [1, 5, 7, 8, 39] | 11 => [7] | 12 => [5, 7, 8, 53] | 13 => [7] | 14 => [5, 7, 8, 58] | 15 => [7] | 16 => [5, 7, 63] | 17 => [7] | 18 => [80] | 19 => [6] | 20 => [6] | _ => []⟩
def s_l31Step.X (c_s_l31Vowel c_s_l31Consonant c_s_l8Voiced : Nat) : FX := ⟨81, [.tmp 6], s_l31Step.F, s_l31Step.x c_s_l31Vowel c_s_l31Consonant c_s_l8Voiced⟩

set_option maxHeartbeats 1000000 in
theorem s_l31Step.ok {P : Program} {k c_s_l31Vowel c_s_l31Consonant c_s_l8Voiced : Nat} (hk : Has P k (s_l31Step.X c_s_l31Vowel c_s_l31Consonant c_s_l8Voiced)) (h1 : CB (fun c => c != 0 && hasF c 0) P c_s_l31Vowel) (h2 : CB (fun c => c != 0 && !hasF c 0) P c_s_l31Consonant) (h3 : CB isVoi P c_s_l8Voiced) : C_step P k := by
  intro nm last x hx hlast n H
  have e1 := vow_eq x.2
  have e2 := con_eq (lnk_out hx)
  have e3 := con_eq hlast
  have e4 : isVoi x.2 = true → x.2 ≠ 0 := fun h e => by rw [e] at h; cases h
  have e5 : isVls x.2 = true ↔ x.2 = 112 ∨ x.2 = 116 := by rw [← vls_eq]; simp
  have k1 := h1 x.2; simp only [e1] at k1
  have k2 := h2 x.2; simp only [e2] at k2
  have k3 := h2 last; simp only [e3] at k3
  clear h1 h2 e1 e2 e3
  refine S.ofX hk rfl fun hB fn hr => ?_
  unfold s_l31Step.x
  repeat' (first
    | ((with_reducible refine S.go ?_); first | refine S.seq ?_ | refine S.skip ?_ | refine S.block ?_ | refine S.inBlock ?_ | refine S.exit rfl ?_ | refine S.regN ?_ | refine S.reg ?_ | refine S.drw hk.mo (by kernel_rfl) ?_ | (refine S.cond rfl (fun hc => ?_) (fun hc => ?_) <;> try simp only [HC] at hc) | refine S.retH hr rfl ?_ | refine S.finH hr rfl ?_ | (refine S.retK hr ?_; refine TR ?_) | fail)
    | ((first | with_reducible refine Ns.go ?_ | with_reducible refine XOs.go ?_ | with_reducible refine XDs.go ?_ | with_reducible refine OK.go ?_); (first | refine TT ?_ | (apply Ns.sc ⟨rfl, rfl⟩ rfl; intro hg) | (refine OK.tr ?_; refine TT ?_)); (try simp only [HC] at hg))
    | with_reducible exact rfl | exact ⟨rfl, rfl, rfl⟩
    | ((with_reducible refine RunsT.go ?_); first | refine RunsF.apf (k1) rfl ?_ | refine RunsF.apf (k2) rfl ?_ | refine RunsF.apf (k3) rfl ?_ | refine RunsF.apf (h3 _) rfl ?_ | fail)
    | ((with_reducible refine RunsD.go ?_); first | refine RunsF.apd (k1) rfl ?_ | refine RunsF.apd (k2) rfl ?_ | refine RunsF.apd (k3) rfl ?_ | refine RunsF.apd (h3 _) rfl ?_ | fail)
    | ((with_reducible refine Gd.go ?_); refine Gd.on (fun hg => ?_) (fun hg => ?_) <;> refine TG ?_ <;> (try simp only [HC] at hg))
    | ((with_reducible refine Fin.go ?_); first | (refine Fin.p ?_; first | exact FT | (try refine TT ?_; try simp only [LF])) | refine Fin.a0 ?_ | refine Fin.a ?_ | refine Fin.ni ?_ | refine Fin.v ?_ ?_ | refine Fin.r ?_ ?_ | exact Fin.th | (refine Fin.t ?_; try simp only [AV.sl.injEq]))
    | (refine And.go ?_; refine AndI ?_)
    | fail)
  all_goals (try clear hr hk hB k1 k2 k3 h3)
  all_goals first | (exfalso; contradiction) | (simp only [stepB, nOnset, nNocoda, nCluster, nVoice, nNasal, nMax, nDep, nIdent, b01]; clear hx hlast; grind)
theorem gex {h : List UInt8 → Bool} {names : List (List UInt8)} {out : List Int} {i : Nat} {G : Prop} [Decidable G] (h2 : out = marksB h (names.take i)) (h3 : 0 < i → G) (he : names.length ≤ i ∨ ¬ G) : out = if G then marksB h names else [] := by
  by_cases hG : G
  · rw [if_pos hG, h2, marksB_end (he.resolve_right fun h => h hG)]
  · rw [if_neg hG, h2]
    have : i = 0 := by
      rcases Nat.eq_zero_or_pos i with h | h
      · exact h
      · exact absurd (h3 h) hG
    subst this; rfl
theorem mst {h : List UInt8 → Bool} {names : List (List UInt8)} {out : List Int} {i : Nat} {x : Int} (h2 : out = marksB h (names.take i)) (hi : i < names.length) (hx : x = b01 (h (names.getD i default))) : out ++ [x] = marksB h (names.take (i + 1)) := by
  rw [marksB_step hi, ← h2, hx]
/-- spec.EndMarks -/
def s_EndMarks.x (c_s_AreLocal c_s_IsSound c_s_l31Consonant c_s_l8Voiced : Nat) : XCode :=
  (.seq
    (.reg [⟨(some 4), .mv, [.k (.nilsl)], none⟩] [0, 1])
    (.seq
      (.reg [⟨(some 8), (.bsl 1 1), [], none⟩,
        ⟨(some 5), .mv, [.t 8], none⟩] [0, 1, 5])
      (.seq
        (.seq
          (.reg [⟨(some 6), .mv, [.k (.int .i64 0)], none⟩] [0, 1, 5, 6])
          (.block 0
            (.loop
              (.seq
                (.seq
                  (.reg (flatNs none (nl [.op (some 9) .mv [.t 6], .op (some 10) .mv [.t 0], .op (some 11) .lenL [.t 10], .op (some 12) (.bin .lss) [.t 9, .t 11], .op (some 13) .mv [.t 12], .sc 13 true (nl [.op (some 14) .mv [.t 0], .op (some 15) .call [.k (.fn c_s_AreLocal []), .t 14]]) (.t 15) (some 16), .op (some 17) .mv [.t 16], .sc 17 true (nl [.op (some 18) .mv [.t 1], .op (some 19) (.bin .eql) [.t 18, .k (.int .u8 0)], .op (some 20) .mv [.t 19], .sc 20 false (nl [.op (some 21) .mv [.t 1], .op (some 22) .call [.k (.fn c_s_IsSound []), .t 21]]) (.t 22) (some 23)]) (.t 23) (some 24)])) [0, 1, 5, 6, 24])
                  (.cond (.t 24)
                    .skip
                    (.exit 0)))
                (.seq
                  (.block 1
                    (.seq
                      (.reg [⟨(some 7), .mv, [.k (.int .i64 0)], none⟩] [0, 1, 5, 6, 7])
                      (.seq
                        (.seq
                          (.reg (flatNs none (nl [.op (some 27) .mv [.t 0], .op (some 28) .mv [.t 6], .op (some 29) (.idxA 1) [.t 27, .t 28], .op (some 30) (.ld none) [.t 29], .op (some 31) (.bin .eql) [.t 30, .k (.str [110, 111, 99, 111, 100, 97])], .op (some 32) .mv [.t 31], .sc 32 true (nl [.op (some 33) .mv [.t 1], .op (some 34) .call [.k (.fn c_s_l31Consonant []), .t 33]]) (.t 34) (some 35), .op (some 36) .mv [.t 35], .sc 36 false (nl [.op (some 37) .mv [.t 0], .op (some 38) .mv [.t 6], .op (some 39) (.idxA 1) [.t 37, .t 38], .op (some 40) (.ld none) [.t 39], .op (some 41) (.bin .eql) [.t 40, .k (.str [102, 105, 110, 97, 108])], .op (some 42) .mv [.t 41], .sc 42 true (nl [.op (some 43) .mv [.t 1], .op (some 44) (.bin .neq) [.t 43, .k (.int .u8 0)]]) (.t 44) (some 45), .op (some 46) .mv [.t 45], .sc 46 true (nl [.op (some 47) .mv [.t 1], .op (some 48) .call [.k (.fn c_s_l8Voiced []), .t 47]]) (.t 48) (some 49)]) (.t 49) (some 50)])) [0, 1, 5, 6, 7, 50])
                          (.cond (.t 50)
                            (.reg [⟨(some 7), .mv, [.k (.int .i64 1)], none⟩] [0, 1, 5, 6, 7])
                            .skip))
                        (.reg [⟨(some 51), .mv, [.t 5], none⟩,
                          ⟨(some 52), .mv, [.t 7], none⟩,
                          ⟨(some 53), (.bsl 0 1), [.t 52], none⟩,
                          ⟨(some 54), (.app 1 8), [.t 51, .t 53], none⟩,
                          ⟨(some 5), .mv, [.t 54], none⟩] [0, 1, 5, 6]))))
                  (.reg [⟨(some 25), .mv, [.t 6], none⟩,
                    ⟨(some 26), (.bin .add), [.t 25, .k (.int .i64 1)], none⟩,
                    ⟨(some 6), .mv, [.t 26], none⟩] [0, 1, 5, 6]))))))
        (.seq
          (.reg [⟨(some 55), .mv, [.t 5], none⟩,
            ⟨(some 4), .mv, [.t 55], none⟩] [4])
          .ret))))
def s_EndMarks.F : Cfg := ⟨fun d => if d = 8 then 1 else 0, fun r => match r with | 0 => [0, 1] | 1 => [0, 1, 5] | 2 => [0, 1, 5, 6] | 3 => [0, 1, 5, 6, 24] | 4 => [0, 1, 5, 6] | 5 => [0, 1, 5, 6, 7] | 6 => [0, 1, 5, 6, 7, 50] | 7 => [0, 1, 5, 6, 7] | 8 => [0, 1, 5, 6] | 9 => [4] | _ => []⟩
def s_EndMarks.X (c_s_AreLocal c_s_IsSound c_s_l31Consonant c_s_l8Voiced : Nat) : FX := ⟨56, [.tmp 4], s_EndMarks.F, s_EndMarks.x c_s_AreLocal c_s_IsSound c_s_l31Consonant c_s_l8Voiced⟩

theorem s_EndMarks.ok {P : Program} {k c_s_AreLocal c_s_IsSound c_s_l31Consonant c_s_l8Voiced : Nat} (hk : Has P k (s_EndMarks.X c_s_AreLocal c_s_IsSound c_s_l31Consonant c_s_l8Voiced)) (h1 : C_AreLocal P c_s_AreLocal) (h2 : C_IsSound P c_s_IsSound) (h3 : CB (fun c => c != 0 && !hasF c 0) P c_s_l31Consonant) (h4 : CB isVoi P c_s_l8Voiced) : C_EndMarks P k := by
  intro names last hl n H
  have k1 := h1 names (by omega)
  refine S.ofX hk rfl fun hB fn hr => ?_
  unfold s_EndMarks.x
  repeat' (first
    | ((with_reducible refine S.go ?_); first | refine S.seq ?_ | refine S.skip ?_ | refine S.block ?_ | refine S.inBlock ?_ | refine S.exit rfl ?_ | refine S.regN ?_ | refine S.reg ?_ | refine S.drw hk.mo (by kernel_rfl) ?_ | (refine S.cond rfl (fun hc => ?_) (fun hc => ?_) <;> try simp only [HC] at hc) | refine S.retH hr rfl ?_ | refine S.finH hr rfl ?_ | (refine S.retK hr ?_; refine TR ?_) | fail)
    | ((first | with_reducible refine Ns.go ?_ | with_reducible refine XOs.go ?_ | with_reducible refine XDs.go ?_ | with_reducible refine OK.go ?_); (first | refine TT ?_ | (apply Ns.sc ⟨rfl, rfl⟩ rfl; intro hg) | (refine OK.tr ?_; refine TT ?_)); (try simp only [HC] at hg))
    | with_reducible exact rfl | exact ⟨rfl, rfl, rfl⟩
    | ((with_reducible refine Gd.go ?_); refine Gd.on (fun hg => ?_) (fun hg => ?_) <;> refine TG ?_ <;> (try simp only [HC] at hg))
    | ((with_reducible refine Fin.go ?_); first | (refine Fin.p ?_; first | exact FT | (try refine TT ?_; try simp only [LF])) | refine Fin.a0 ?_ | refine Fin.a ?_ | refine Fin.ni ?_ | refine Fin.v ?_ ?_ | refine Fin.r ?_ ?_ | exact Fin.th | (refine Fin.t ?_; try simp only [AV.sl.injEq]))
    | (refine And.go ?_; refine AndI ?_)
    | fail)
  refine S.loopV (σ := Nat × (List Int)) [0, 1, 5, 6] (fun s => [(5, .acc n 1 (enc s.2)), (6, .int .i64 (s.1 : Int))]) (fun s => s.1 ≤ names.length ∧ s.2 = marksB (endB last) (names.take s.1) ∧ s.2.length = s.1 ∧ (0 < s.1 → areLoc names = true ∧ isLastB last = true)) (fun s => n + 1) (fun s => (n, .tok 1 s.2.length) :: H) (fun s => names.length - s.1) (0, []) (⟨by omega, ?_, ?_, ?_⟩) ?_
  · first | rfl | omega | (simp; done) | (simp; omega) | skip
  · first | rfl | omega | (simp; done) | (simp; omega) | skip
  · first | rfl | omega | (simp; done) | (simp; omega) | skip
  rintro ⟨i, out⟩ ⟨hi1, hi2, hi3, hi4⟩ ih
  try dsimp only at hi1 hi2 hi3 hi4
  repeat' (first
    | ((with_reducible refine S.go ?_); first | refine S.seq ?_ | refine S.skip ?_ | refine S.block ?_ | refine S.inBlock ?_ | refine S.exit rfl ?_ | refine S.regN ?_ | refine S.reg ?_ | refine S.drw hk.mo (by kernel_rfl) ?_ | refine S.ag (ih ((i + 1, _)) ?_ ?_) | (refine S.cond rfl (fun hc => ?_) (fun hc => ?_) <;> try simp only [HC] at hc) | refine S.retH hr rfl ?_ | refine S.finH hr rfl ?_ | (refine S.retK hr ?_; refine TR ?_) | fail)
    | ((first | with_reducible refine Ns.go ?_ | with_reducible refine XOs.go ?_ | with_reducible refine XDs.go ?_ | with_reducible refine OK.go ?_); (first | refine TT ?_ | (apply Ns.sc ⟨rfl, rfl⟩ rfl; intro hg) | (refine OK.tr ?_; refine TT ?_)); (try simp only [HC] at hg))
    | with_reducible exact rfl | exact ⟨rfl, rfl, rfl⟩
    | ((with_reducible refine RunsT.go ?_); first | refine RunsF.apf (k1) rfl ?_ | refine RunsF.apf (h2 _) rfl ?_ | refine RunsF.apf (h3 _) rfl ?_ | refine RunsF.apf (h4 _) rfl ?_ | fail)
    | ((with_reducible refine RunsD.go ?_); first | refine RunsF.apd (k1) rfl ?_ | refine RunsF.apd (h2 _) rfl ?_ | refine RunsF.apd (h3 _) rfl ?_ | refine RunsF.apd (h4 _) rfl ?_ | fail)
    | ((with_reducible refine Gd.go ?_); refine Gd.on (fun hg => ?_) (fun hg => ?_) <;> refine TG ?_ <;> (try simp only [HC] at hg))
    | ((with_reducible refine Fin.go ?_); first | (refine Fin.p ?_; first | exact FT | (try refine TT ?_; try simp only [LF])) | refine Fin.a0 ?_ | refine Fin.a ?_ | refine Fin.ni ?_ | refine Fin.v ?_ ?_ | refine Fin.r ?_ ?_ | exact Fin.th | (refine Fin.t ?_; try simp only [AV.sl.injEq]))
    | (refine And.go ?_; refine AndI ?_)
    | fail)
  all_goals (try clear ih)
  all_goals (try dsimp only)
  all_goals (repeat' apply And.intro)
  all_goals first | omega | (simp only [ZL]; omega) | skip
  all_goals (try clear hr hk hB k1 h1 h2 h3 h4)
  all_goals first | (refine gex hi2 (fun h => by have := hi4 h; grind) ?_; clear hi2 hi3 hi4; simp only [isLastB] at *; grind) | (intro; clear hi2 hi3 hi4; simp only [isLastB] at *; grind) | skip
  all_goals (refine mst hi2 (by omega) ?_; clear hi2 hi3 hi4)
  all_goals (have e2 := con_eq (c := last) (by simp only [isLastB]; grind); have e3 := voi_eq last)
  all_goals (simp only [endB, b01, nNocoda, nFinal] at *; grind)
theorem isCand_one (x : Link) : isCand [x] = isLnk x := by
  cases h : isLnk x
  · unfold isCand; rw [List.all_cons, h]; rfl
  · have e : ∀ c : UInt8, isSnd c = true → isForm [c] = true := fun c hc => by simp [isForm, hc]
    have e0 : isForm [] = true := rfl
    rw [lnk_form] at h
    unfold isCand insS outS nz
    simp only [List.all_cons, List.all_nil, lnk_form, h, List.map_cons, List.map_nil, List.filter_cons, List.filter_nil, Bool.and_true, List.length_cons, List.length_nil]
    grind
/-- spec.StepMarks -/
def s_StepMarks.x (c_s_AreLocal c_s_IsCandidate c_s_IsSound c_s_l31Step : Nat) : XCode :=
  (.seq
    (.reg [⟨(some 5), .boxF, [.t 2], none⟩,
      ⟨(some 6), .mv, [.k (.nilsl)], none⟩] [0, 1, 5])
    (.seq
      (.reg [⟨(some 10), (.bsl 1 1), [], none⟩,
        ⟨(some 7), .mv, [.t 10], none⟩] [0, 1, 5, 7])
      (.seq
        (.reg [⟨(some 11), (.ld (some 2)), [.t 5], none⟩,
          ⟨(some 12), (.bsl 0 2), [.t 11], none⟩,
          ⟨(some 13), (.build [.nilsl] [(0, 1)]), [.t 12], none⟩,
          ⟨(some 8), (.alloc [.nilsl]), [], none⟩,
          ⟨none, (.st (some 1)), [.t 8, .t 13], none⟩] [0, 1, 5, 7, 8])
        (.seq
          (.seq
            (.reg [⟨(some 9), .mv, [.k (.int .i64 0)], none⟩] [0, 1, 5, 7, 8, 9])
            (.block 0
              (.loop
                (.seq
                  (.seq
                    (.reg (flatNs none (nl [.op (some 14) .mv [.t 9], .op (some 15) .mv [.t 0], .op (some 16) .lenL [.t 15], .op (some 17) (.bin .lss) [.t 14, .t 16], .op (some 18) .mv [.t 17], .sc 18 true (nl [.op (some 19) .mv [.t 0], .op (some 20) .call [.k (.fn c_s_AreLocal []), .t 19]]) (.t 20) (some 21), .op (some 22) .mv [.t 21], .sc 22 true (nl [.op (some 23) (.ld (some 1)) [.t 8], .op (some 24) .call [.k (.fn c_s_IsCandidate []), .t 23]]) (.t 24) (some 25), .op (some 26) .mv [.t 25], .sc 26 true (nl [.op (some 27) .mv [.t 1], .op (some 28) (.bin .eql) [.t 27, .k (.int .u8 0)], .op (some 29) .mv [.t 28], .sc 29 false (nl [.op (some 30) .mv [.t 1], .op (some 31) .call [.k (.fn c_s_IsSound []), .t 30]]) (.t 31) (some 32)]) (.t 32) (some 33)])) [0, 1, 5, 7, 8, 9, 33])
                    (.cond (.t 33)
                      .skip
                      (.exit 0)))
                  (.seq
                    (.block 1
                      (.drw [(⟨(some 36), .mv, [.t 7], none⟩, []),
                        (⟨(some 37), .mv, [.t 0], none⟩, []),
                        (⟨(some 38), .mv, [.t 9], none⟩, []),
                        (⟨(some 39), (.idxA 1), [.t 37, .t 38], none⟩, [1, 2]),
                        (⟨(some 40), (.ld none), [.t 39], none⟩, [3]),
                        (⟨(some 41), .mv, [.t 1], none⟩, []),
                        (⟨(some 42), (.ld (some 2)), [.t 5], none⟩, []),
                        (⟨(some 43), .call, [.k (.fn c_s_l31Step []), .t 40, .t 41, .t 42], none⟩, [4, 5, 6]),
                        (⟨(some 44), (.bsl 0 1), [.t 43], none⟩, [7]),
                        (⟨(some 45), (.app 1 8), [.t 36, .t 44], none⟩, [0, 8, 7]),
                        (⟨(some 7), .mv, [.t 45], none⟩, [9, 9, 0, 1, 2, 3, 4, 5, 6, 7, 8, 9])] [0, 1, 5, 7, 8, 9] [0, 0, 0, 0, 0, 0, 0, 0, 0, 2, 0]))
                    (.reg [⟨(some 34), .mv, [.t 9], none⟩,
                      ⟨(some 35), (.bin .add), [.t 34, .k (.int .i64 1)], none⟩,
                      ⟨(some 9), .mv, [.t 35], none⟩] [0, 1, 5, 7, 8, 9]))))))
          (.seq
            (.reg [⟨(some 46), .mv, [.t 7], none⟩,
              ⟨(some 6), .mv, [.t 46], none⟩] [6])
            .ret)))))
def s_StepMarks.F : Cfg := ⟨fun d => if d = 10 then 1 else 0, fun r => match r with | 0 => [0, 1, 5] | 1 => [0, 1, 5, 7] | 2 => [0, 1, 5, 7, 8] | 3 => [0, 1, 5, 7, 8, 9] | 4 => [0, 1, 5, 7, 8, 9, 33] | 5 => [0, 1, 5, 7, 8, 9] | 6 => [0, 1, 5, 7, 8, 9] | 7 => [6] | 1000006 => [0, 0, 0, 0, 0, 0, 0, 0, 0, 2, 0] | _ => []⟩
def s_StepMarks.X (c_s_AreLocal c_s_IsCandidate c_s_IsSound c_s_l31Step : Nat) : FX := ⟨47, [.tmp 6], s_StepMarks.F, s_StepMarks.x c_s_AreLocal c_s_IsCandidate c_s_IsSound c_s_l31Step⟩

theorem s_StepMarks.ok {P : Program} {k c_s_AreLocal c_s_IsCandidate c_s_IsSound c_s_l31Step : Nat} (hk : Has P k (s_StepMarks.X c_s_AreLocal c_s_IsCandidate c_s_IsSound c_s_l31Step)) (h1 : C_AreLocal P c_s_AreLocal) (h2 : C_IsSound P c_s_IsSound) (h3 : C_IsCandidate P c_s_IsCandidate) (h4 : C_step P c_s_l31Step) : C_StepMarks P k := by
  intro names last x hl n H
  have k1 := h1 names (by omega)
  have k3 : RunsF P c_s_IsCandidate [.agg [.sl [Dat.row x]]] (.bool (isCand [x])) := h3 [x] (by simp)
  rw [isCand_one] at k3
  refine S.ofX hk rfl fun hB fn hr => ?_
  unfold s_StepMarks.x
  repeat' (first
    | ((with_reducible refine S.go ?_); first | refine S.seq ?_ | refine S.skip ?_ | refine S.block ?_ | refine S.inBlock ?_ | refine S.exit rfl ?_ | refine S.regN ?_ | refine S.reg ?_ | refine S.drw hk.mo (by kernel_rfl) ?_ | (refine S.cond rfl (fun hc => ?_) (fun hc => ?_) <;> try simp only [HC] at hc) | refine S.retH hr rfl ?_ | refine S.finH hr rfl ?_ | (refine S.retK hr ?_; refine TR ?_) | fail)
    | ((first | with_reducible refine Ns.go ?_ | with_reducible refine XOs.go ?_ | with_reducible refine XDs.go ?_ | with_reducible refine OK.go ?_); (first | refine TT ?_ | (apply Ns.sc ⟨rfl, rfl⟩ rfl; intro hg) | (refine OK.tr ?_; refine TT ?_)); (try simp only [HC] at hg))
    | with_reducible exact rfl | exact ⟨rfl, rfl, rfl⟩
    | ((with_reducible refine Gd.go ?_); refine Gd.on (fun hg => ?_) (fun hg => ?_) <;> refine TG ?_ <;> (try simp only [HC] at hg))
    | ((with_reducible refine Fin.go ?_); first | (refine Fin.p ?_; first | exact FT | (try refine TT ?_; try simp only [LF])) | refine Fin.a0 ?_ | refine Fin.a ?_ | refine Fin.ni ?_ | refine Fin.v ?_ ?_ | refine Fin.r ?_ ?_ | exact Fin.th | (refine Fin.t ?_; try simp only [AV.sl.injEq]))
    | (refine And.go ?_; refine AndI ?_)
    | fail)
  refine S.loopV (σ := Nat × (List Int)) [0, 1, 5, 7, 8, 9] (fun s => [(7, .acc n 1 (enc s.2)), (9, .int .i64 (s.1 : Int))]) (fun s => s.1 ≤ names.length ∧ s.2 = marksB (stepB last x) (names.take s.1) ∧ s.2.length = s.1 ∧ (0 < s.1 → areLoc names = true ∧ isLnk x = true ∧ isLastB last = true)) (fun s => n + 2) (fun s => (n + 1, .own [.sl [Dat.row x]]) :: (n, .tok 1 s.2.length) :: H) (fun s => names.length - s.1) (0, []) (⟨by omega, ?_, ?_, ?_⟩) ?_
  · first | rfl | omega | (simp; done) | (simp; omega) | skip
  · first | rfl | omega | (simp; done) | (simp; omega) | skip
  · first | rfl | omega | (simp; done) | (simp; omega) | skip
  rintro ⟨i, out⟩ ⟨hi1, hi2, hi3, hi4⟩ ih
  try dsimp only at hi1 hi2 hi3 hi4
  repeat' (first
    | ((with_reducible refine S.go ?_); first | refine S.seq ?_ | refine S.skip ?_ | refine S.block ?_ | refine S.inBlock ?_ | refine S.exit rfl ?_ | refine S.regN ?_ | refine S.reg ?_ | refine S.drw hk.mo (by kernel_rfl) ?_ | refine S.ag (ih ((i + 1, _)) ?_ ?_) | (refine S.cond rfl (fun hc => ?_) (fun hc => ?_) <;> try simp only [HC] at hc) | refine S.retH hr rfl ?_ | refine S.finH hr rfl ?_ | (refine S.retK hr ?_; refine TR ?_) | fail)
    | ((first | with_reducible refine Ns.go ?_ | with_reducible refine XOs.go ?_ | with_reducible refine XDs.go ?_ | with_reducible refine OK.go ?_); (first | refine TT ?_ | (apply Ns.sc ⟨rfl, rfl⟩ rfl; intro hg) | (refine OK.tr ?_; refine TT ?_)); (try simp only [HC] at hg))
    | with_reducible exact rfl | exact ⟨rfl, rfl, rfl⟩
    | ((with_reducible refine RunsT.go ?_); first | refine RunsF.apf (k1) rfl ?_ | refine RunsF.apf (h2 _) rfl ?_ | refine RunsF.apf (h4 _ _ _ (by grind) (by simp only [isLastB]; grind)) rfl ?_ | fail)
    | ((with_reducible refine RunsD.go ?_); first | refine RunsF.apd (k1) rfl ?_ | refine RunsF.apd (h2 _) rfl ?_ | refine RunsF.apd (h4 _ _ _ (by grind) (by simp only [isLastB]; grind)) rfl ?_ | fail)
    | (refine RunsF.ap k3 ?_; try refine TT ?_)
    | ((with_reducible refine Gd.go ?_); refine Gd.on (fun hg => ?_) (fun hg => ?_) <;> refine TG ?_ <;> (try simp only [HC] at hg))
    | ((with_reducible refine Fin.go ?_); first | (refine Fin.p ?_; first | exact FT | (try refine TT ?_; try simp only [LF])) | refine Fin.a0 ?_ | refine Fin.a ?_ | refine Fin.ni ?_ | refine Fin.v ?_ ?_ | refine Fin.r ?_ ?_ | exact Fin.th | (refine Fin.t ?_; try simp only [AV.sl.injEq]))
    | (refine And.go ?_; refine AndI ?_)
    | fail)
  all_goals (try clear ih)
  all_goals (try dsimp only)
  all_goals (repeat' apply And.intro)
  all_goals first | omega | (simp only [ZL]; omega) | skip
  all_goals (try clear hr hk hB k1 h1 h2 h3 h4)
  all_goals first | (refine gex hi2 (fun h => by have := hi4 h; grind) ?_; clear hi2 hi3 hi4; simp only [isLastB] at *; grind) | (intro; clear hi2 hi3 hi4; simp only [isLastB] at *; grind) | (exact mst hi2 (by omega) rfl)
end Go.M03

/- Violations, profiles, marks compared. Over any program. The best candidate. Over any program. Levels. Over any program. Steps, derivations, levels in order. Over any program. Several levels. Over any program. Laws of levels and serial derivations, by value. Over any program. No condition. -/
import Derived.Test.YtiaimihgfldfgaaGreatB3FnExactSameByOrder
import Derived.Test.YtiaimihgfldfgaaGreatB2FnExactSameByOrder
section
namespace Go.G07
open Go.Ab Siz Go.Lib01 Go.Lib03 Go.M01 Go.M02 Go.N02 Go.G02 Go.G05 Go.G06
set_option linter.unusedVariables false
set_option linter.unusedSimpArgs false
set_option maxRecDepth 2000
def inQ (c : List Lnk) : List UInt8 := if isCand c then insS c else []
def outQ (c : List Lnk) : List UInt8 := if isCand c then outS c else []
/-- impl.OutputOf -/
def i_OutputOf.x (c_i_IsCandidate c_i_sounds : Nat) : XCode :=
  (.seq
    (.reg [⟨(some 1), .boxF, [.t 0], none⟩,
      ⟨(some 2), .mv, [.k (.str [])], none⟩] [1])
    (.seq
      (.seq
        (.reg [⟨(some 3), (.ld (some 1)), [.t 1], none⟩,
          ⟨(some 4), .call, [.k (.fn c_i_IsCandidate []), .t 3], none⟩,
          ⟨(some 5), (.un .not), [.t 4], none⟩] [1, 5])
        (.cond (.t 5)
          (.seq
            (.reg [⟨(some 2), .mv, [.k (.str [])], none⟩] [2])
            .ret)
          .skip))
      (.seq
        (.reg [⟨(some 6), (.ld (some 1)), [.t 1], none⟩,
          ⟨(some 7), .call, [.k (.fn c_i_sounds []), .t 6, .k (.bool true)], none⟩,
          ⟨(some 2), .mv, [.t 7], none⟩] [2])
        .ret)))
def i_OutputOf.F : Cfg := ⟨fun _ => 0, fun r => match r with | 0 => [1] | 1 => [1, 5] | 2 => [2] | 3 => [2] | _ => []⟩
def i_OutputOf.X (c_i_IsCandidate c_i_sounds : Nat) : FX := ⟨8, [.tmp 2], i_OutputOf.F, i_OutputOf.x c_i_IsCandidate c_i_sounds⟩

theorem i_OutputOf.ok {P : Program} {k c_i_IsCandidate c_i_sounds : Nat} (hk : Has P k (i_OutputOf.X c_i_IsCandidate c_i_sounds)) (h1 : C_IsCandidate P c_i_IsCandidate) (h2 : C_sounds P c_i_sounds) : Cs outQ P k := by
  intro c hs n H
  refine S.ofX hk rfl fun hB fn hr => ?_
  unfold i_OutputOf.x
  repeat' (first
    | ((with_reducible refine S.go ?_); first | refine S.seq ?_ | refine S.skip ?_ | refine S.block ?_ | refine S.inBlock ?_ | refine S.exit rfl ?_ | refine S.regN ?_ | refine S.reg ?_ | refine S.drw hk.mo (by kernel_rfl) ?_ | (refine S.cond rfl (fun hc => ?_) (fun hc => ?_) <;> try simp only [HC] at hc) | refine S.retH hr rfl ?_ | refine S.finH hr rfl ?_ | (refine S.retK hr ?_; refine TRdt ?_) | fail)
    | ((first | with_reducible refine Ns.go ?_ | with_reducible refine XOs.go ?_ | with_reducible refine XDs.go ?_ | with_reducible refine OK.go ?_); (first | refine TTdt ?_ | (apply Ns.sc ⟨rfl, rfl⟩ rfl; intro hg) | (refine OK.tr ?_; refine TTdt ?_)); (try simp only [HC] at hg))
    | with_reducible exact rfl | exact ⟨rfl, rfl, rfl⟩
    | ((with_reducible refine RunsT.go ?_); first | refine RunsF.apf (h1 _ hs) rfl ?_ | refine RunsF.apf (h2 _ _ hs) rfl ?_ | fail)
    | ((with_reducible refine RunsD.go ?_); first | refine RunsF.apd (h1 _ hs) rfl ?_ | refine RunsF.apd (h2 _ _ hs) rfl ?_ | fail)
    | ((with_reducible refine Gd.go ?_); refine Gd.on (fun hg => ?_) (fun hg => ?_) <;> refine TGdt ?_ <;> (try simp only [HC] at hg))
    | ((with_reducible refine Fin.go ?_); first | (refine Fin.p ?_; first | exact FT | (try refine TTdt ?_; try simp only [LF])) | refine Fin.a0 ?_ | refine Fin.a ?_ | refine Fin.ni ?_ | refine Fin.v ?_ ?_ | refine Fin.r ?_ ?_ | exact Fin.th | (refine Fin.t ?_; try simp only [AV.sl.injEq]))
    | (refine And.go ?_; refine AndI ?_)
    | fail)
  all_goals (try clear hr hk hB)
  all_goals (rw [outQ, hc]; rfl)
/-- spec.OutputOf -/
def s_OutputOf.x (c_s_IsCandidate c_s_l6Out : Nat) : XCode :=
  (.seq
    (.reg [⟨(some 1), .boxF, [.t 0], none⟩,
      ⟨(some 2), .mv, [.k (.str [])], none⟩] [1])
    (.seq
      (.seq
        (.reg [⟨(some 3), (.ld (some 1)), [.t 1], none⟩,
          ⟨(some 4), .call, [.k (.fn c_s_IsCandidate []), .t 3], none⟩,
          ⟨(some 5), (.un .not), [.t 4], none⟩] [1, 5])
        (.cond (.t 5)
          (.seq
            (.reg [⟨(some 2), .mv, [.k (.str [])], none⟩] [2])
            .ret)
          .skip))
      (.seq
        (.reg [⟨(some 6), (.ld (some 1)), [.t 1], none⟩,
          ⟨(some 7), .call, [.k (.fn c_s_l6Out []), .t 6], none⟩,
          ⟨(some 2), .mv, [.t 7], none⟩] [2])
        .ret)))
def s_OutputOf.F : Cfg := ⟨fun _ => 0, fun r => match r with | 0 => [1] | 1 => [1, 5] | 2 => [2] | 3 => [2] | _ => []⟩
def s_OutputOf.X (c_s_IsCandidate c_s_l6Out : Nat) : FX := ⟨8, [.tmp 2], s_OutputOf.F, s_OutputOf.x c_s_IsCandidate c_s_l6Out⟩

theorem s_OutputOf.ok {P : Program} {k c_s_IsCandidate c_s_l6Out : Nat} (hk : Has P k (s_OutputOf.X c_s_IsCandidate c_s_l6Out)) (h1 : C_IsCandidate P c_s_IsCandidate) (h2 : Cs outS P c_s_l6Out) : Cs outQ P k := by
  intro c hs n H
  refine S.ofX hk rfl fun hB fn hr => ?_
  unfold s_OutputOf.x
  repeat' (first
    | ((with_reducible refine S.go ?_); first | refine S.seq ?_ | refine S.skip ?_ | refine S.block ?_ | refine S.inBlock ?_ | refine S.exit rfl ?_ | refine S.regN ?_ | refine S.reg ?_ | refine S.drw hk.mo (by kernel_rfl) ?_ | (refine S.cond rfl (fun hc => ?_) (fun hc => ?_) <;> try simp only [HC] at hc) | refine S.retH hr rfl ?_ | refine S.finH hr rfl ?_ | (refine S.retK hr ?_; refine TRdt ?_) | fail)
    | ((first | with_reducible refine Ns.go ?_ | with_reducible refine XOs.go ?_ | with_reducible refine XDs.go ?_ | with_reducible refine OK.go ?_); (first | refine TTdt ?_ | (apply Ns.sc ⟨rfl, rfl⟩ rfl; intro hg) | (refine OK.tr ?_; refine TTdt ?_)); (try simp only [HC] at hg))
    | with_reducible exact rfl | exact ⟨rfl, rfl, rfl⟩
    | ((with_reducible refine RunsT.go ?_); first | refine RunsF.apf (h1 _ hs) rfl ?_ | refine RunsF.apf (h2 _ hs) rfl ?_ | fail)
    | ((with_reducible refine RunsD.go ?_); first | refine RunsF.apd (h1 _ hs) rfl ?_ | refine RunsF.apd (h2 _ hs) rfl ?_ | fail)
    | ((with_reducible refine Gd.go ?_); refine Gd.on (fun hg => ?_) (fun hg => ?_) <;> refine TGdt ?_ <;> (try simp only [HC] at hg))
    | ((with_reducible refine Fin.go ?_); first | (refine Fin.p ?_; first | exact FT | (try refine TTdt ?_; try simp only [LF])) | refine Fin.a0 ?_ | refine Fin.a ?_ | refine Fin.ni ?_ | refine Fin.v ?_ ?_ | refine Fin.r ?_ ?_ | exact Fin.th | (refine Fin.t ?_; try simp only [AV.sl.injEq]))
    | (refine And.go ?_; refine AndI ?_)
    | fail)
  all_goals (try clear hr hk hB)
  all_goals (rw [outQ, hc]; rfl)
def hEd : Lnk → Bool := fun x => x.1 != x.2
def edits (c : List Lnk) : Nat := cln hEd c c.length
def C_edits (P : Program) (k : Nat) : Prop := ∀ c : List Lnk, c.length ≤ 4294967295 → RunsF P k [.agg [.sl (enc c)]] (.int .i64 (edits c : Int))
def nOnset : List UInt8 := [111, 110, 115, 101, 116]
def nNocoda : List UInt8 := [110, 111, 99, 111, 100, 97]
def nCluster : List UInt8 := [99, 108, 117, 115, 116, 101, 114]
def nVoice : List UInt8 := [118, 111, 105, 99, 101]
def nFinal : List UInt8 := [102, 105, 110, 97, 108]
def nNasal : List UInt8 := [110, 97, 115, 97, 108]
def nMax : List UInt8 := [109, 97, 120]
def nDep : List UInt8 := [100, 101, 112]
def nIdent : List UInt8 := [105, 100, 101, 110, 116]
def nContig : List UInt8 := [99, 111, 110, 116, 105, 103]
def vio (nm : List UInt8) (c : List Lnk) : Int :=
  if isCand c = false then -1 else if nm = nOnset then (pls hOns (outQ c) : Int) else if nm = nNocoda then (pls hCod (outQ c) : Int) else if nm = nCluster then (pls hClu (outQ c) : Int)
  else if nm = nVoice then (pls hVoi (outQ c) : Int) else if nm = nFinal then (pls hFin (outQ c) : Int) else if nm = nNasal then (pls hNas (outQ c) : Int)
  else if nm = nMax then (lks hDel c : Int) else if nm = nDep then (lks hIns c : Int) else if nm = nIdent then (lks hVch c : Int) else if nm = nContig then (brk c : Int) else -1
def C_vio (P : Program) (k : Nat) : Prop := ∀ (nm : List UInt8) (c : List Lnk), c.length ≤ 4294967295 → RunsF P k [.str nm, .agg [.sl (enc c)]] (.int .i64 (vio nm c))
theorem outQ_len (c : List Lnk) : (outQ c).length ≤ c.length := by
  unfold outQ; split
  · exact outs_len c
  · simp
/-- impl.ViolationsOf -/
def i_ViolationsOf.x (c_i_IsCandidate c_i_OutputOf c_i_CountOnsetless c_i_CountCodas c_i_CountClusters c_i_CountVoiced c_i_CountFinalVoiced c_i_CountNasalVoiceless c_i_CountDeleted c_i_CountInserted c_i_CountVoiceChanged c_i_CountBreaks : Nat) : XCode :=
  (.seq
    (.reg [⟨(some 3), .boxF, [.t 1], none⟩,
      ⟨(some 4), .mv, [.k (.int .i64 0)], none⟩] [0, 3])
    (.seq
      (.seq
        (.reg [⟨(some 6), (.ld (some 1)), [.t 3], none⟩,
          ⟨(some 7), .call, [.k (.fn c_i_IsCandidate []), .t 6], none⟩,
          ⟨(some 8), (.un .not), [.t 7], none⟩] [0, 3, 8])
        (.cond (.t 8)
          (.seq
            (.reg [⟨(some 4), .mv, [.k (.int .i64 (-1))], none⟩] [4])
            .ret)
          .skip))
      (.seq
        (.reg [⟨(some 9), (.ld (some 1)), [.t 3], none⟩,
          ⟨(some 10), .call, [.k (.fn c_i_OutputOf []), .t 9], none⟩,
          ⟨(some 5), .mv, [.t 10], none⟩] [0, 3, 5])
        (.seq
          (.seq
            (.reg [⟨(some 11), .mv, [.t 0], none⟩] [3, 5, 11])
            (.block 0
              (.seq
                (.reg [⟨(some 13), (.bin .eql), [.t 11, .k (.str [111, 110, 115, 101, 116])], none⟩,
                  ⟨(some 12), .mv, [.t 13], none⟩] [3, 5, 11, 12])
                (.cond (.t 12)
                  (.seq
                    (.reg [⟨(some 14), .mv, [.t 5], none⟩,
                      ⟨(some 15), .call, [.k (.fn c_i_CountOnsetless []), .t 14], none⟩,
                      ⟨(some 4), .mv, [.t 15], none⟩] [4])
                    .ret)
                  (.seq
                    (.reg [⟨(some 17), (.bin .eql), [.t 11, .k (.str [110, 111, 99, 111, 100, 97])], none⟩,
                      ⟨(some 16), .mv, [.t 17], none⟩] [3, 5, 11, 16])
                    (.cond (.t 16)
                      (.seq
                        (.reg [⟨(some 18), .mv, [.t 5], none⟩,
                          ⟨(some 19), .call, [.k (.fn c_i_CountCodas []), .t 18], none⟩,
                          ⟨(some 4), .mv, [.t 19], none⟩] [4])
                        .ret)
                      (.seq
                        (.reg [⟨(some 21), (.bin .eql), [.t 11, .k (.str [99, 108, 117, 115, 116, 101, 114])], none⟩,
                          ⟨(some 20), .mv, [.t 21], none⟩] [3, 5, 11, 20])
                        (.cond (.t 20)
                          (.seq
                            (.reg [⟨(some 22), .mv, [.t 5], none⟩,
                              ⟨(some 23), .call, [.k (.fn c_i_CountClusters []), .t 22], none⟩,
                              ⟨(some 4), .mv, [.t 23], none⟩] [4])
                            .ret)
                          (.seq
                            (.reg [⟨(some 25), (.bin .eql), [.t 11, .k (.str [118, 111, 105, 99, 101])], none⟩,
                              ⟨(some 24), .mv, [.t 25], none⟩] [3, 5, 11, 24])
                            (.cond (.t 24)
                              (.seq
                                (.reg [⟨(some 26), .mv, [.t 5], none⟩,
                                  ⟨(some 27), .call, [.k (.fn c_i_CountVoiced []), .t 26], none⟩,
                                  ⟨(some 4), .mv, [.t 27], none⟩] [4])
                                .ret)
                              (.seq
                                (.reg [⟨(some 29), (.bin .eql), [.t 11, .k (.str [102, 105, 110, 97, 108])], none⟩,
                                  ⟨(some 28), .mv, [.t 29], none⟩] [3, 5, 11, 28])
                                (.cond (.t 28)
                                  (.seq
                                    (.reg [⟨(some 30), .mv, [.t 5], none⟩,
                                      ⟨(some 31), .call, [.k (.fn c_i_CountFinalVoiced []), .t 30], none⟩,
                                      ⟨(some 4), .mv, [.t 31], none⟩] [4])
                                    .ret)
                                  (.seq
                                    (.reg [⟨(some 33), (.bin .eql), [.t 11, .k (.str [110, 97, 115, 97, 108])], none⟩,
                                      ⟨(some 32), .mv, [.t 33], none⟩] [3, 5, 11, 32])
                                    (.cond (.t 32)
                                      (.seq
                                        (.reg [⟨(some 34), .mv, [.t 5], none⟩,
                                          ⟨(some 35), .call, [.k (.fn c_i_CountNasalVoiceless []), .t 34], none⟩,
                                          ⟨(some 4), .mv, [.t 35], none⟩] [4])
                                        .ret)
                                      (.seq
                                        (.reg [⟨(some 37), (.bin .eql), [.t 11, .k (.str [109, 97, 120])], none⟩,
                                          ⟨(some 36), .mv, [.t 37], none⟩] [3, 11, 36])
                                        (.cond (.t 36)
                                          (.seq
                                            (.reg [⟨(some 38), (.ld (some 1)), [.t 3], none⟩,
                                              ⟨(some 39), .call, [.k (.fn c_i_CountDeleted []), .t 38], none⟩,
                                              ⟨(some 4), .mv, [.t 39], none⟩] [4])
                                            .ret)
                                          (.seq
                                            (.reg [⟨(some 41), (.bin .eql), [.t 11, .k (.str [100, 101, 112])], none⟩,
                                              ⟨(some 40), .mv, [.t 41], none⟩] [3, 11, 40])
                                            (.cond (.t 40)
                                              (.seq
                                                (.reg [⟨(some 42), (.ld (some 1)), [.t 3], none⟩,
                                                  ⟨(some 43), .call, [.k (.fn c_i_CountInserted []), .t 42], none⟩,
                                                  ⟨(some 4), .mv, [.t 43], none⟩] [4])
                                                .ret)
                                              (.seq
                                                (.reg [⟨(some 45), (.bin .eql), [.t 11, .k (.str [105, 100, 101, 110, 116])], none⟩,
                                                  ⟨(some 44), .mv, [.t 45], none⟩] [3, 11, 44])
                                                (.cond (.t 44)
                                                  (.seq
                                                    (.reg [⟨(some 46), (.ld (some 1)), [.t 3], none⟩,
                                                      ⟨(some 47), .call, [.k (.fn c_i_CountVoiceChanged []), .t 46], none⟩,
                                                      ⟨(some 4), .mv, [.t 47], none⟩] [4])
                                                    .ret)
                                                  (.seq
                                                    (.reg [⟨(some 49), (.bin .eql), [.t 11, .k (.str [99, 111, 110, 116, 105, 103])], none⟩,
                                                      ⟨(some 48), .mv, [.t 49], none⟩] [3, 48])
                                                    (.cond (.t 48)
                                                      (.seq
                                                        (.reg [⟨(some 50), (.ld (some 1)), [.t 3], none⟩,
                                                          ⟨(some 51), .call, [.k (.fn c_i_CountBreaks []), .t 50], none⟩,
                                                          ⟨(some 4), .mv, [.t 51], none⟩] [4])
                                                        .ret)
                                                      .skip))))))))))))))))))))))
          (.seq
            (.reg [⟨(some 4), .mv, [.k (.int .i64 (-1))], none⟩] [4])
            .ret)))))
def i_ViolationsOf.F : Cfg := ⟨fun _ => 0, fun r => match r with | 0 => [0, 3] | 1 => [0, 3, 8] | 2 => [4] | 3 => [0, 3, 5] | 4 => [3, 5, 11] | 5 => [3, 5, 11, 12] | 6 => [4] | 7 => [3, 5, 11, 16] | 8 => [4] | 9 => [3, 5, 11, 20] | 10 => [4] | 11 => [3, 5, 11, 24] | 12 => [4] | 13 => [3, 5, 11, 28] | 14 => [4] | 15 => [3, 5, 11, 32] | 16 => [4] | 17 => [3, 11, 36] | 18 => [4] | 19 => [3, 11, 40] | 20 => [4] | 21 => [3, 11, 44] | 22 => [4] | 23 => [3, 48] | 24 => [4] | 25 => [4] | _ => []⟩
def i_ViolationsOf.X (c_i_IsCandidate c_i_OutputOf c_i_CountOnsetless c_i_CountCodas c_i_CountClusters c_i_CountVoiced c_i_CountFinalVoiced c_i_CountNasalVoiceless c_i_CountDeleted c_i_CountInserted c_i_CountVoiceChanged c_i_CountBreaks : Nat) : FX := ⟨52, [.tmp 4], i_ViolationsOf.F, i_ViolationsOf.x c_i_IsCandidate c_i_OutputOf c_i_CountOnsetless c_i_CountCodas c_i_CountClusters c_i_CountVoiced c_i_CountFinalVoiced c_i_CountNasalVoiceless c_i_CountDeleted c_i_CountInserted c_i_CountVoiceChanged c_i_CountBreaks⟩

set_option maxHeartbeats 1000000 in
theorem i_ViolationsOf.ok {P : Program} {k c_i_IsCandidate c_i_OutputOf c_i_CountOnsetless c_i_CountCodas c_i_CountClusters c_i_CountVoiced c_i_CountFinalVoiced c_i_CountNasalVoiceless c_i_CountDeleted c_i_CountInserted c_i_CountVoiceChanged c_i_CountBreaks : Nat} (hk : Has P k (i_ViolationsOf.X c_i_IsCandidate c_i_OutputOf c_i_CountOnsetless c_i_CountCodas c_i_CountClusters c_i_CountVoiced c_i_CountFinalVoiced c_i_CountNasalVoiceless c_i_CountDeleted c_i_CountInserted c_i_CountVoiceChanged c_i_CountBreaks)) (h1 : C_IsCandidate P c_i_IsCandidate) (h2 : Cs outQ P c_i_OutputOf) (a1 : C_cnt hOns P c_i_CountOnsetless) (a2 : C_cnt hCod P c_i_CountCodas) (a3 : C_cnt hClu P c_i_CountClusters) (a4 : C_cnt hVoi P c_i_CountVoiced) (a5 : C_cnt hFin P c_i_CountFinalVoiced) (a6 : C_cnt hNas P c_i_CountNasalVoiceless) (a7 : C_lks hDel P c_i_CountDeleted) (a8 : C_lks hIns P c_i_CountInserted) (a9 : C_lks hVch P c_i_CountVoiceChanged) (a10 : C_brk P c_i_CountBreaks) : C_vio P k := by
  intro nm c hs n H
  have hl := outQ_len c
  refine S.ofX hk rfl fun hB fn hr => ?_
  unfold i_ViolationsOf.x
  repeat' (first
    | ((with_reducible refine S.go ?_); first | refine S.seq ?_ | refine S.skip ?_ | refine S.block ?_ | refine S.inBlock ?_ | refine S.exit rfl ?_ | refine S.regN ?_ | refine S.reg ?_ | refine S.drw hk.mo (by kernel_rfl) ?_ | (refine S.cond rfl (fun hc => ?_) (fun hc => ?_) <;> try simp only [HC] at hc) | refine S.retH hr rfl ?_ | refine S.finH hr rfl ?_ | (refine S.retK hr ?_; refine TRdt ?_) | fail)
    | ((first | with_reducible refine Ns.go ?_ | with_reducible refine XOs.go ?_ | with_reducible refine XDs.go ?_ | with_reducible refine OK.go ?_); (first | refine TTdt ?_ | (apply Ns.sc ⟨rfl, rfl⟩ rfl; intro hg) | (refine OK.tr ?_; refine TTdt ?_)); (try simp only [HC] at hg))
    | with_reducible exact rfl | exact ⟨rfl, rfl, rfl⟩
    | ((with_reducible refine RunsT.go ?_); first | refine RunsF.apf (h1 _ hs) rfl ?_ | refine RunsF.apf (h2 _ hs) rfl ?_ | refine RunsF.apf (a1 _ (by omega)) rfl ?_ | refine RunsF.apf (a2 _ (by omega)) rfl ?_ | refine RunsF.apf (a3 _ (by omega)) rfl ?_ | refine RunsF.apf (a4 _ (by omega)) rfl ?_ | refine RunsF.apf (a5 _ (by omega)) rfl ?_ | refine RunsF.apf (a6 _ (by omega)) rfl ?_ | refine RunsF.apf (a7 _ hs) rfl ?_ | refine RunsF.apf (a8 _ hs) rfl ?_ | refine RunsF.apf (a9 _ hs) rfl ?_ | refine RunsF.apf (a10 _ hs) rfl ?_ | fail)
    | ((with_reducible refine RunsD.go ?_); first | refine RunsF.apd (h1 _ hs) rfl ?_ | refine RunsF.apd (h2 _ hs) rfl ?_ | refine RunsF.apd (a1 _ (by omega)) rfl ?_ | refine RunsF.apd (a2 _ (by omega)) rfl ?_ | refine RunsF.apd (a3 _ (by omega)) rfl ?_ | refine RunsF.apd (a4 _ (by omega)) rfl ?_ | refine RunsF.apd (a5 _ (by omega)) rfl ?_ | refine RunsF.apd (a6 _ (by omega)) rfl ?_ | refine RunsF.apd (a7 _ hs) rfl ?_ | refine RunsF.apd (a8 _ hs) rfl ?_ | refine RunsF.apd (a9 _ hs) rfl ?_ | refine RunsF.apd (a10 _ hs) rfl ?_ | fail)
    | ((with_reducible refine Gd.go ?_); refine Gd.on (fun hg => ?_) (fun hg => ?_) <;> refine TGdt ?_ <;> (try simp only [HC] at hg))
    | ((with_reducible refine Fin.go ?_); first | (refine Fin.p ?_; first | exact FT | (try refine TTdt ?_; try simp only [LF])) | refine Fin.a0 ?_ | refine Fin.a ?_ | refine Fin.ni ?_ | refine Fin.v ?_ ?_ | refine Fin.r ?_ ?_ | exact Fin.th | (refine Fin.t ?_; try simp only [AV.sl.injEq]))
    | (refine And.go ?_; refine AndI ?_)
    | fail)
  all_goals (try clear hr hk hB)
  all_goals (simp [vio, nOnset, nNocoda, nCluster, nVoice, nFinal, nNasal, nMax, nDep, nIdent, nContig, *]; done)
/-- spec.ViolationsOf -/
def s_ViolationsOf.x (c_s_IsCandidate c_s_OutputOf c_s_CountOnsetless c_s_CountCodas c_s_CountClusters c_s_CountVoiced c_s_CountFinalVoiced c_s_CountNasalVoiceless c_s_CountDeleted c_s_CountInserted c_s_CountVoiceChanged c_s_CountBreaks : Nat) : XCode :=
  (.seq
    (.reg [⟨(some 3), .boxF, [.t 1], none⟩,
      ⟨(some 4), .mv, [.k (.int .i64 0)], none⟩] [0, 3])
    (.seq
      (.seq
        (.reg [⟨(some 6), (.ld (some 1)), [.t 3], none⟩,
          ⟨(some 7), .call, [.k (.fn c_s_IsCandidate []), .t 6], none⟩,
          ⟨(some 8), (.un .not), [.t 7], none⟩] [0, 3, 8])
        (.cond (.t 8)
          (.seq
            (.reg [⟨(some 4), .mv, [.k (.int .i64 (-1))], none⟩] [4])
            .ret)
          .skip))
      (.seq
        (.reg [⟨(some 9), (.ld (some 1)), [.t 3], none⟩,
          ⟨(some 10), .call, [.k (.fn c_s_OutputOf []), .t 9], none⟩,
          ⟨(some 5), .mv, [.t 10], none⟩] [0, 3, 5])
        (.seq
          (.seq
            (.reg [⟨(some 11), .mv, [.t 0], none⟩] [3, 5, 11])
            (.block 0
              (.seq
                (.reg [⟨(some 13), (.bin .eql), [.t 11, .k (.str [111, 110, 115, 101, 116])], none⟩,
                  ⟨(some 12), .mv, [.t 13], none⟩] [3, 5, 11, 12])
                (.cond (.t 12)
                  (.seq
                    (.reg [⟨(some 14), .mv, [.t 5], none⟩,
                      ⟨(some 15), .call, [.k (.fn c_s_CountOnsetless []), .t 14], none⟩,
                      ⟨(some 4), .mv, [.t 15], none⟩] [4])
                    .ret)
                  (.seq
                    (.reg [⟨(some 17), (.bin .eql), [.t 11, .k (.str [110, 111, 99, 111, 100, 97])], none⟩,
                      ⟨(some 16), .mv, [.t 17], none⟩] [3, 5, 11, 16])
                    (.cond (.t 16)
                      (.seq
                        (.reg [⟨(some 18), .mv, [.t 5], none⟩,
                          ⟨(some 19), .call, [.k (.fn c_s_CountCodas []), .t 18], none⟩,
                          ⟨(some 4), .mv, [.t 19], none⟩] [4])
                        .ret)
                      (.seq
                        (.reg [⟨(some 21), (.bin .eql), [.t 11, .k (.str [99, 108, 117, 115, 116, 101, 114])], none⟩,
                          ⟨(some 20), .mv, [.t 21], none⟩] [3, 5, 11, 20])
                        (.cond (.t 20)
                          (.seq
                            (.reg [⟨(some 22), .mv, [.t 5], none⟩,
                              ⟨(some 23), .call, [.k (.fn c_s_CountClusters []), .t 22], none⟩,
                              ⟨(some 4), .mv, [.t 23], none⟩] [4])
                            .ret)
                          (.seq
                            (.reg [⟨(some 25), (.bin .eql), [.t 11, .k (.str [118, 111, 105, 99, 101])], none⟩,
                              ⟨(some 24), .mv, [.t 25], none⟩] [3, 5, 11, 24])
                            (.cond (.t 24)
                              (.seq
                                (.reg [⟨(some 26), .mv, [.t 5], none⟩,
                                  ⟨(some 27), .call, [.k (.fn c_s_CountVoiced []), .t 26], none⟩,
                                  ⟨(some 4), .mv, [.t 27], none⟩] [4])
                                .ret)
                              (.seq
                                (.reg [⟨(some 29), (.bin .eql), [.t 11, .k (.str [102, 105, 110, 97, 108])], none⟩,
                                  ⟨(some 28), .mv, [.t 29], none⟩] [3, 5, 11, 28])
                                (.cond (.t 28)
                                  (.seq
                                    (.reg [⟨(some 30), .mv, [.t 5], none⟩,
                                      ⟨(some 31), .call, [.k (.fn c_s_CountFinalVoiced []), .t 30], none⟩,
                                      ⟨(some 4), .mv, [.t 31], none⟩] [4])
                                    .ret)
                                  (.seq
                                    (.reg [⟨(some 33), (.bin .eql), [.t 11, .k (.str [110, 97, 115, 97, 108])], none⟩,
                                      ⟨(some 32), .mv, [.t 33], none⟩] [3, 5, 11, 32])
                                    (.cond (.t 32)
                                      (.seq
                                        (.reg [⟨(some 34), .mv, [.t 5], none⟩,
                                          ⟨(some 35), .call, [.k (.fn c_s_CountNasalVoiceless []), .t 34], none⟩,
                                          ⟨(some 4), .mv, [.t 35], none⟩] [4])
                                        .ret)
                                      (.seq
                                        (.reg [⟨(some 37), (.bin .eql), [.t 11, .k (.str [109, 97, 120])], none⟩,
                                          ⟨(some 36), .mv, [.t 37], none⟩] [3, 11, 36])
                                        (.cond (.t 36)
                                          (.seq
                                            (.reg [⟨(some 38), (.ld (some 1)), [.t 3], none⟩,
                                              ⟨(some 39), .call, [.k (.fn c_s_CountDeleted []), .t 38], none⟩,
                                              ⟨(some 4), .mv, [.t 39], none⟩] [4])
                                            .ret)
                                          (.seq
                                            (.reg [⟨(some 41), (.bin .eql), [.t 11, .k (.str [100, 101, 112])], none⟩,
                                              ⟨(some 40), .mv, [.t 41], none⟩] [3, 11, 40])
                                            (.cond (.t 40)
                                              (.seq
                                                (.reg [⟨(some 42), (.ld (some 1)), [.t 3], none⟩,
                                                  ⟨(some 43), .call, [.k (.fn c_s_CountInserted []), .t 42], none⟩,
                                                  ⟨(some 4), .mv, [.t 43], none⟩] [4])
                                                .ret)
                                              (.seq
                                                (.reg [⟨(some 45), (.bin .eql), [.t 11, .k (.str [105, 100, 101, 110, 116])], none⟩,
                                                  ⟨(some 44), .mv, [.t 45], none⟩] [3, 11, 44])
                                                (.cond (.t 44)
                                                  (.seq
                                                    (.reg [⟨(some 46), (.ld (some 1)), [.t 3], none⟩,
                                                      ⟨(some 47), .call, [.k (.fn c_s_CountVoiceChanged []), .t 46], none⟩,
                                                      ⟨(some 4), .mv, [.t 47], none⟩] [4])
                                                    .ret)
                                                  (.seq
                                                    (.reg [⟨(some 49), (.bin .eql), [.t 11, .k (.str [99, 111, 110, 116, 105, 103])], none⟩,
                                                      ⟨(some 48), .mv, [.t 49], none⟩] [3, 48])
                                                    (.cond (.t 48)
                                                      (.seq
                                                        (.reg [⟨(some 50), (.ld (some 1)), [.t 3], none⟩,
                                                          ⟨(some 51), .call, [.k (.fn c_s_CountBreaks []), .t 50], none⟩,
                                                          ⟨(some 4), .mv, [.t 51], none⟩] [4])
                                                        .ret)
                                                      .skip))))))))))))))))))))))
          (.seq
            (.reg [⟨(some 4), .mv, [.k (.int .i64 (-1))], none⟩] [4])
            .ret)))))
def s_ViolationsOf.F : Cfg := ⟨fun _ => 0, fun r => match r with | 0 => [0, 3] | 1 => [0, 3, 8] | 2 => [4] | 3 => [0, 3, 5] | 4 => [3, 5, 11] | 5 => [3, 5, 11, 12] | 6 => [4] | 7 => [3, 5, 11, 16] | 8 => [4] | 9 => [3, 5, 11, 20] | 10 => [4] | 11 => [3, 5, 11, 24] | 12 => [4] | 13 => [3, 5, 11, 28] | 14 => [4] | 15 => [3, 5, 11, 32] | 16 => [4] | 17 => [3, 11, 36] | 18 => [4] | 19 => [3, 11, 40] | 20 => [4] | 21 => [3, 11, 44] | 22 => [4] | 23 => [3, 48] | 24 => [4] | 25 => [4] | _ => []⟩
def s_ViolationsOf.X (c_s_IsCandidate c_s_OutputOf c_s_CountOnsetless c_s_CountCodas c_s_CountClusters c_s_CountVoiced c_s_CountFinalVoiced c_s_CountNasalVoiceless c_s_CountDeleted c_s_CountInserted c_s_CountVoiceChanged c_s_CountBreaks : Nat) : FX := ⟨52, [.tmp 4], s_ViolationsOf.F, s_ViolationsOf.x c_s_IsCandidate c_s_OutputOf c_s_CountOnsetless c_s_CountCodas c_s_CountClusters c_s_CountVoiced c_s_CountFinalVoiced c_s_CountNasalVoiceless c_s_CountDeleted c_s_CountInserted c_s_CountVoiceChanged c_s_CountBreaks⟩

set_option maxHeartbeats 1000000 in
theorem s_ViolationsOf.ok {P : Program} {k c_s_IsCandidate c_s_OutputOf c_s_CountOnsetless c_s_CountCodas c_s_CountClusters c_s_CountVoiced c_s_CountFinalVoiced c_s_CountNasalVoiceless c_s_CountDeleted c_s_CountInserted c_s_CountVoiceChanged c_s_CountBreaks : Nat} (hk : Has P k (s_ViolationsOf.X c_s_IsCandidate c_s_OutputOf c_s_CountOnsetless c_s_CountCodas c_s_CountClusters c_s_CountVoiced c_s_CountFinalVoiced c_s_CountNasalVoiceless c_s_CountDeleted c_s_CountInserted c_s_CountVoiceChanged c_s_CountBreaks)) (h1 : C_IsCandidate P c_s_IsCandidate) (h2 : Cs outQ P c_s_OutputOf) (a1 : C_cnt hOns P c_s_CountOnsetless) (a2 : C_cnt hCod P c_s_CountCodas) (a3 : C_cnt hClu P c_s_CountClusters) (a4 : C_cnt hVoi P c_s_CountVoiced) (a5 : C_cnt hFin P c_s_CountFinalVoiced) (a6 : C_cnt hNas P c_s_CountNasalVoiceless) (a7 : C_lks hDel P c_s_CountDeleted) (a8 : C_lks hIns P c_s_CountInserted) (a9 : C_lks hVch P c_s_CountVoiceChanged) (a10 : C_brk P c_s_CountBreaks) : C_vio P k := by
  intro nm c hs n H
  have hl := outQ_len c
  refine S.ofX hk rfl fun hB fn hr => ?_
  unfold s_ViolationsOf.x
  repeat' (first
    | ((with_reducible refine S.go ?_); first | refine S.seq ?_ | refine S.skip ?_ | refine S.block ?_ | refine S.inBlock ?_ | refine S.exit rfl ?_ | refine S.regN ?_ | refine S.reg ?_ | refine S.drw hk.mo (by kernel_rfl) ?_ | (refine S.cond rfl (fun hc => ?_) (fun hc => ?_) <;> try simp only [HC] at hc) | refine S.retH hr rfl ?_ | refine S.finH hr rfl ?_ | (refine S.retK hr ?_; refine TRdt ?_) | fail)
    | ((first | with_reducible refine Ns.go ?_ | with_reducible refine XOs.go ?_ | with_reducible refine XDs.go ?_ | with_reducible refine OK.go ?_); (first | refine TTdt ?_ | (apply Ns.sc ⟨rfl, rfl⟩ rfl; intro hg) | (refine OK.tr ?_; refine TTdt ?_)); (try simp only [HC] at hg))
    | with_reducible exact rfl | exact ⟨rfl, rfl, rfl⟩
    | ((with_reducible refine RunsT.go ?_); first | refine RunsF.apf (h1 _ hs) rfl ?_ | refine RunsF.apf (h2 _ hs) rfl ?_ | refine RunsF.apf (a1 _ (by omega)) rfl ?_ | refine RunsF.apf (a2 _ (by omega)) rfl ?_ | refine RunsF.apf (a3 _ (by omega)) rfl ?_ | refine RunsF.apf (a4 _ (by omega)) rfl ?_ | refine RunsF.apf (a5 _ (by omega)) rfl ?_ | refine RunsF.apf (a6 _ (by omega)) rfl ?_ | refine RunsF.apf (a7 _ hs) rfl ?_ | refine RunsF.apf (a8 _ hs) rfl ?_ | refine RunsF.apf (a9 _ hs) rfl ?_ | refine RunsF.apf (a10 _ hs) rfl ?_ | fail)
    | ((with_reducible refine RunsD.go ?_); first | refine RunsF.apd (h1 _ hs) rfl ?_ | refine RunsF.apd (h2 _ hs) rfl ?_ | refine RunsF.apd (a1 _ (by omega)) rfl ?_ | refine RunsF.apd (a2 _ (by omega)) rfl ?_ | refine RunsF.apd (a3 _ (by omega)) rfl ?_ | refine RunsF.apd (a4 _ (by omega)) rfl ?_ | refine RunsF.apd (a5 _ (by omega)) rfl ?_ | refine RunsF.apd (a6 _ (by omega)) rfl ?_ | refine RunsF.apd (a7 _ hs) rfl ?_ | refine RunsF.apd (a8 _ hs) rfl ?_ | refine RunsF.apd (a9 _ hs) rfl ?_ | refine RunsF.apd (a10 _ hs) rfl ?_ | fail)
    | ((with_reducible refine Gd.go ?_); refine Gd.on (fun hg => ?_) (fun hg => ?_) <;> refine TGdt ?_ <;> (try simp only [HC] at hg))
    | ((with_reducible refine Fin.go ?_); first | (refine Fin.p ?_; first | exact FT | (try refine TTdt ?_; try simp only [LF])) | refine Fin.a0 ?_ | refine Fin.a ?_ | refine Fin.ni ?_ | refine Fin.v ?_ ?_ | refine Fin.r ?_ ?_ | exact Fin.th | (refine Fin.t ?_; try simp only [AV.sl.injEq]))
    | (refine And.go ?_; refine AndI ?_)
    | fail)
  all_goals (try clear hr hk hB)
  all_goals (simp [vio, nOnset, nNocoda, nCluster, nVoice, nFinal, nNasal, nMax, nDep, nIdent, nContig, *]; done)
def prof (names : List (List UInt8)) (c : List Lnk) : List Int := if areCons names && isCand c then names.map (fun nm => vio nm c) else []
theorem prof_no {names : List (List UInt8)} {c : List Lnk} (h : areCons names = false ∨ isCand c = false) : prof names c = [] := by
  unfold prof; rcases h with h | h <;> rw [h] <;> simp
theorem prof_yes {names : List (List UInt8)} {c : List Lnk} (h1 : areCons names = true) (h2 : isCand c = true) : prof names c = names.map (fun nm => vio nm c) := by
  unfold prof; rw [h1, h2]; rfl
theorem prof_le (names : List (List UInt8)) (c : List Lnk) : (prof names c).length ≤ 5 := by
  unfold prof; split
  · rename_i h
    simp only [areCons, Bool.and_eq_true, decide_eq_true_eq] at h
    rw [List.length_map]; exact h.1.2.2
  · simp
theorem map_next {α β : Type} [Inhabited α] {f : α → β} {l : List α} {i : Nat} (h : i < l.length) : (l.take (i + 1)).map f = (l.take i).map f ++ [f (l.getD i default)] := by
  rw [take_succ _ _ h]; simp
def C_prof (P : Program) (k : Nat) : Prop := ∀ (names : List (List UInt8)) (c : List Lnk), names.length ≤ 4294967295 → c.length ≤ 4294967295 → RunsF P k [.sl (enc names), .agg [.sl (enc c)]] (.sl (enc (prof names c)))
/-- impl.ProfileOf -/
def i_ProfileOf.x (c_i_AreConstraints c_i_IsCandidate c_i_ViolationsOf : Nat) : XCode :=
  (.seq
    (.reg [⟨(some 3), .boxF, [.t 1], none⟩,
      ⟨(some 4), .mv, [.k (.nilsl)], none⟩] [0, 3])
    (.seq
      (.seq
        (.reg (flatNs none (nl [.op (some 8) .mv [.t 0], .op (some 9) .call [.k (.fn c_i_AreConstraints []), .t 8], .op (some 10) (.un .not) [.t 9], .op (some 11) .mv [.t 10], .sc 11 false (nl [.op (some 12) (.ld (some 1)) [.t 3], .op (some 13) .call [.k (.fn c_i_IsCandidate []), .t 12], .op (some 14) (.un .not) [.t 13]]) (.t 14) (some 15)])) [0, 3, 15])
        (.cond (.t 15)
          (.seq
            (.reg [⟨(some 4), .mv, [.k (.nilsl)], none⟩] [4])
            .ret)
          .skip))
      (.seq
        (.reg [⟨(some 16), (.bsl 1 1), [], none⟩,
          ⟨(some 5), .mv, [.t 16], none⟩] [0, 3, 5])
        (.seq
          (.seq
            (.reg [⟨(some 17), .mv, [.t 0], none⟩,
              ⟨(some 18), .lenL, [.t 17], none⟩,
              ⟨(some 19), .mv, [.k (.int .i64 0)], none⟩] [3, 5, 17, 18, 19])
            (.block 0
              (.loop
                (.seq
                  (.reg [⟨(some 20), (.bin .lss), [.t 19, .t 18], none⟩] [3, 5, 17, 18, 19, 20])
                  (.seq
                    (.cond (.t 20)
                      .skip
                      (.exit 0))
                    (.seq
                      (.block 1
                        (.seq
                          (.reg [⟨(some 21), (.idxA 1), [.t 17, .t 19], none⟩,
                            ⟨(some 22), (.ld none), [.t 21], none⟩,
                            ⟨(some 7), .mv, [.t 22], none⟩] [3, 5, 7, 17, 18, 19])
                          (.reg [⟨(some 23), .mv, [.t 5], none⟩,
                            ⟨(some 24), .mv, [.t 7], none⟩,
                            ⟨(some 25), (.ld (some 1)), [.t 3], none⟩,
                            ⟨(some 26), .call, [.k (.fn c_i_ViolationsOf []), .t 24, .t 25], none⟩,
                            ⟨(some 27), (.bsl 0 1), [.t 26], none⟩,
                            ⟨(some 28), (.app 1 8), [.t 23, .t 27], none⟩,
                            ⟨(some 5), .mv, [.t 28], none⟩] [3, 5, 17, 18, 19])))
                      (.reg [⟨(some 29), (.bin .add), [.t 19, .k (.int .i64 1)], none⟩,
                        ⟨(some 19), .mv, [.t 29], none⟩] [3, 5, 17, 18, 19])))))))
          (.seq
            (.reg [⟨(some 30), .mv, [.t 5], none⟩,
              ⟨(some 4), .mv, [.t 30], none⟩] [4])
            .ret)))))
def i_ProfileOf.F : Cfg := ⟨fun d => if d = 16 then 1 else 0, fun r => match r with | 0 => [0, 3] | 1 => [0, 3, 15] | 2 => [4] | 3 => [0, 3, 5] | 4 => [3, 5, 17, 18, 19] | 5 => [3, 5, 17, 18, 19, 20] | 6 => [3, 5, 7, 17, 18, 19] | 7 => [3, 5, 17, 18, 19] | 8 => [3, 5, 17, 18, 19] | 9 => [4] | _ => []⟩
def i_ProfileOf.X (c_i_AreConstraints c_i_IsCandidate c_i_ViolationsOf : Nat) : FX := ⟨31, [.tmp 4], i_ProfileOf.F, i_ProfileOf.x c_i_AreConstraints c_i_IsCandidate c_i_ViolationsOf⟩

theorem i_ProfileOf.ok {P : Program} {k c_i_AreConstraints c_i_IsCandidate c_i_ViolationsOf : Nat} (hk : Has P k (i_ProfileOf.X c_i_AreConstraints c_i_IsCandidate c_i_ViolationsOf)) (h1 : C_AreConstraints P c_i_AreConstraints) (h2 : C_IsCandidate P c_i_IsCandidate) (h3 : C_vio P c_i_ViolationsOf) : C_prof P k := by
  intro names c hn hs n H
  refine S.ofX hk rfl fun hB fn hr => ?_
  unfold i_ProfileOf.x
  repeat' (first
    | ((with_reducible refine S.go ?_); first | refine S.seq ?_ | refine S.skip ?_ | refine S.block ?_ | refine S.inBlock ?_ | refine S.exit rfl ?_ | refine S.regN ?_ | refine S.reg ?_ | refine S.drw hk.mo (by kernel_rfl) ?_ | (refine S.cond rfl (fun hc => ?_) (fun hc => ?_) <;> try simp only [HC] at hc) | refine S.retH hr rfl ?_ | refine S.finH hr rfl ?_ | (refine S.retK hr ?_; refine TRdt ?_) | fail)
    | ((first | with_reducible refine Ns.go ?_ | with_reducible refine XOs.go ?_ | with_reducible refine XDs.go ?_ | with_reducible refine OK.go ?_); (first | refine TTdt ?_ | (apply Ns.sc ⟨rfl, rfl⟩ rfl; intro hg) | (refine OK.tr ?_; refine TTdt ?_)); (try simp only [HC] at hg))
    | with_reducible exact rfl | exact ⟨rfl, rfl, rfl⟩
    | ((with_reducible refine RunsT.go ?_); first | refine RunsF.apf (h1 _ (by omega)) rfl ?_ | refine RunsF.apf (h2 _ hs) rfl ?_ | fail)
    | ((with_reducible refine RunsD.go ?_); first | refine RunsF.apd (h1 _ (by omega)) rfl ?_ | refine RunsF.apd (h2 _ hs) rfl ?_ | fail)
    | ((with_reducible refine Gd.go ?_); refine Gd.on (fun hg => ?_) (fun hg => ?_) <;> refine TGdt ?_ <;> (try simp only [HC] at hg))
    | ((with_reducible refine Fin.go ?_); first | (refine Fin.p ?_; first | exact FT | (try refine TTdt ?_; try simp only [LF])) | refine Fin.a0 ?_ | refine Fin.a ?_ | refine Fin.ni ?_ | refine Fin.v ?_ ?_ | refine Fin.r ?_ ?_ | exact Fin.th | (refine Fin.t ?_; try simp only [AV.sl.injEq]))
    | (refine And.go ?_; refine AndI ?_)
    | fail)
  · rw [prof_no hc]; rfl
  have hcc := hc
  refine S.loopV (σ := Nat × (List Int)) [3, 5, 17, 18, 19] (fun s => [(5, .acc n 1 (enc s.2)), (19, .int .i64 (s.1 : Int))]) (fun s => s.1 ≤ names.length ∧ s.2 = (names.take s.1).map (fun nm => vio nm c) ∧ s.2.length = s.1) (fun s => n + 1) (fun s => (n, .tok 1 s.2.length) :: H) (fun s => names.length - s.1) (0, []) (⟨by omega, ?_, ?_⟩) ?_
  · first | rfl | omega | (simp; done) | (simp; omega) | skip
  · first | rfl | omega | (simp; done) | (simp; omega) | skip
  rintro ⟨i, out⟩ ⟨hi1, hi2, hi3⟩ ih
  try dsimp only at hi1 hi2 hi3
  repeat' (first
    | ((with_reducible refine S.go ?_); first | refine S.seq ?_ | refine S.skip ?_ | refine S.block ?_ | refine S.inBlock ?_ | refine S.exit rfl ?_ | refine S.regN ?_ | refine S.reg ?_ | refine S.drw hk.mo (by kernel_rfl) ?_ | refine S.ag (ih ((i + 1, _)) ?_ ?_) | (refine S.cond rfl (fun hc => ?_) (fun hc => ?_) <;> try simp only [HC] at hc) | refine S.retH hr rfl ?_ | refine S.finH hr rfl ?_ | (refine S.retK hr ?_; refine TRdt ?_) | fail)
    | ((first | with_reducible refine Ns.go ?_ | with_reducible refine XOs.go ?_ | with_reducible refine XDs.go ?_ | with_reducible refine OK.go ?_); (first | refine TTdt ?_ | (apply Ns.sc ⟨rfl, rfl⟩ rfl; intro hg) | (refine OK.tr ?_; refine TTdt ?_)); (try simp only [HC] at hg))
    | with_reducible exact rfl | exact ⟨rfl, rfl, rfl⟩
    | ((with_reducible refine RunsT.go ?_); first | refine RunsF.apf (h3 _ _ hs) rfl ?_ | fail)
    | ((with_reducible refine RunsD.go ?_); first | refine RunsF.apd (h3 _ _ hs) rfl ?_ | fail)
    | ((with_reducible refine Gd.go ?_); refine Gd.on (fun hg => ?_) (fun hg => ?_) <;> refine TGdt ?_ <;> (try simp only [HC] at hg))
    | ((with_reducible refine Fin.go ?_); first | (refine Fin.p ?_; first | exact FT | (try refine TTdt ?_; try simp only [LF])) | refine Fin.a0 ?_ | refine Fin.a ?_ | refine Fin.ni ?_ | refine Fin.v ?_ ?_ | refine Fin.r ?_ ?_ | exact Fin.th | (refine Fin.t ?_; try simp only [AV.sl.injEq]))
    | (refine And.go ?_; refine AndI ?_)
    | fail)
  all_goals (try clear ih)
  all_goals (try dsimp only)
  all_goals (repeat' apply And.intro)
  all_goals first | omega | (simp only [ZL]; omega) | skip
  all_goals (try clear hr hk hB)
  all_goals first | (rw [map_next (by omega), ← hi2]; done) | (rw [prof_yes hcc.1 hcc.2, hi2, List.take_of_length_le (by omega)])
/-- spec.ProfileOf -/
def s_ProfileOf.x (c_s_AreConstraints c_s_IsCandidate c_s_ViolationsOf : Nat) : XCode :=
  (.seq
    (.reg [⟨(some 3), .boxF, [.t 1], none⟩,
      ⟨(some 4), .mv, [.k (.nilsl)], none⟩] [0, 3])
    (.seq
      (.reg [⟨(some 7), (.bsl 1 1), [], none⟩,
        ⟨(some 5), .mv, [.t 7], none⟩] [0, 3, 5])
      (.seq
        (.seq
          (.reg [⟨(some 6), .mv, [.k (.int .i64 0)], none⟩] [0, 3, 5, 6])
          (.block 0
            (.loop
              (.seq
                (.seq
                  (.reg (flatNs none (nl [.op (some 8) .mv [.t 6], .op (some 9) .mv [.t 0], .op (some 10) .lenL [.t 9], .op (some 11) (.bin .lss) [.t 8, .t 10], .op (some 12) .mv [.t 11], .sc 12 true (nl [.op (some 13) .mv [.t 0], .op (some 14) .call [.k (.fn c_s_AreConstraints []), .t 13]]) (.t 14) (some 15), .op (some 16) .mv [.t 15], .sc 16 true (nl [.op (some 17) (.ld (some 1)) [.t 3], .op (some 18) .call [.k (.fn c_s_IsCandidate []), .t 17]]) (.t 18) (some 19)])) [0, 3, 5, 6, 19])
                  (.cond (.t 19)
                    .skip
                    (.exit 0)))
                (.seq
                  (.block 1
                    (.drw [(⟨(some 22), .mv, [.t 5], none⟩, []),
                      (⟨(some 23), .mv, [.t 0], none⟩, []),
                      (⟨(some 24), .mv, [.t 6], none⟩, []),
                      (⟨(some 25), (.idxA 1), [.t 23, .t 24], none⟩, [1, 2]),
                      (⟨(some 26), (.ld none), [.t 25], none⟩, [3]),
                      (⟨(some 27), (.ld (some 1)), [.t 3], none⟩, []),
                      (⟨(some 28), .call, [.k (.fn c_s_ViolationsOf []), .t 26, .t 27], none⟩, [4, 5]),
                      (⟨(some 29), (.bsl 0 1), [.t 28], none⟩, [6]),
                      (⟨(some 30), (.app 1 8), [.t 22, .t 29], none⟩, [0, 7, 6]),
                      (⟨(some 5), .mv, [.t 30], none⟩, [8, 8, 0, 1, 2, 3, 4, 5, 6, 7, 8])] [0, 3, 5, 6] [0, 0, 0, 0, 0, 0, 0, 0, 2, 0]))
                  (.reg [⟨(some 20), .mv, [.t 6], none⟩,
                    ⟨(some 21), (.bin .add), [.t 20, .k (.int .i64 1)], none⟩,
                    ⟨(some 6), .mv, [.t 21], none⟩] [0, 3, 5, 6]))))))
        (.seq
          (.reg [⟨(some 31), .mv, [.t 5], none⟩,
            ⟨(some 4), .mv, [.t 31], none⟩] [4])
          .ret))))
def s_ProfileOf.F : Cfg := ⟨fun d => if d = 7 then 1 else 0, fun r => match r with | 0 => [0, 3] | 1 => [0, 3, 5] | 2 => [0, 3, 5, 6] | 3 => [0, 3, 5, 6, 19] | 4 => [0, 3, 5, 6] | 5 => [0, 3, 5, 6] | 6 => [4] | 1000005 => [0, 0, 0, 0, 0, 0, 0, 0, 2, 0] | _ => []⟩
def s_ProfileOf.X (c_s_AreConstraints c_s_IsCandidate c_s_ViolationsOf : Nat) : FX := ⟨32, [.tmp 4], s_ProfileOf.F, s_ProfileOf.x c_s_AreConstraints c_s_IsCandidate c_s_ViolationsOf⟩

theorem s_ProfileOf.ok {P : Program} {k c_s_AreConstraints c_s_IsCandidate c_s_ViolationsOf : Nat} (hk : Has P k (s_ProfileOf.X c_s_AreConstraints c_s_IsCandidate c_s_ViolationsOf)) (h1 : C_AreConstraints P c_s_AreConstraints) (h2 : C_IsCandidate P c_s_IsCandidate) (h3 : C_vio P c_s_ViolationsOf) : C_prof P k := by
  intro names c hn hs n H
  refine S.ofX hk rfl fun hB fn hr => ?_
  unfold s_ProfileOf.x
  repeat' (first
    | ((with_reducible refine S.go ?_); first | refine S.seq ?_ | refine S.skip ?_ | refine S.block ?_ | refine S.inBlock ?_ | refine S.exit rfl ?_ | refine S.regN ?_ | refine S.reg ?_ | refine S.drw hk.mo (by kernel_rfl) ?_ | (refine S.cond rfl (fun hc => ?_) (fun hc => ?_) <;> try simp only [HC] at hc) | refine S.retH hr rfl ?_ | refine S.finH hr rfl ?_ | (refine S.retK hr ?_; refine TRdt ?_) | fail)
    | ((first | with_reducible refine Ns.go ?_ | with_reducible refine XOs.go ?_ | with_reducible refine XDs.go ?_ | with_reducible refine OK.go ?_); (first | refine TTdt ?_ | (apply Ns.sc ⟨rfl, rfl⟩ rfl; intro hg) | (refine OK.tr ?_; refine TTdt ?_)); (try simp only [HC] at hg))
    | with_reducible exact rfl | exact ⟨rfl, rfl, rfl⟩
    | ((with_reducible refine Gd.go ?_); refine Gd.on (fun hg => ?_) (fun hg => ?_) <;> refine TGdt ?_ <;> (try simp only [HC] at hg))
    | ((with_reducible refine Fin.go ?_); first | (refine Fin.p ?_; first | exact FT | (try refine TTdt ?_; try simp only [LF])) | refine Fin.a0 ?_ | refine Fin.a ?_ | refine Fin.ni ?_ | refine Fin.v ?_ ?_ | refine Fin.r ?_ ?_ | exact Fin.th | (refine Fin.t ?_; try simp only [AV.sl.injEq]))
    | (refine And.go ?_; refine AndI ?_)
    | fail)
  refine S.loopV (σ := Nat × (List Int)) [0, 3, 5, 6] (fun s => [(5, .acc n 1 (enc s.2)), (6, .int .i64 (s.1 : Int))]) (fun s => s.1 ≤ names.length ∧ s.2 = (names.take s.1).map (fun nm => vio nm c) ∧ s.2.length = s.1 ∧ (0 < s.1 → areCons names = true ∧ isCand c = true)) (fun s => n + 1) (fun s => (n, .tok 1 s.2.length) :: H) (fun s => names.length - s.1) (0, []) (⟨by omega, ?_, ?_, ?_⟩) ?_
  · first | rfl | omega | (simp; done) | (simp; omega) | skip
  · first | rfl | omega | (simp; done) | (simp; omega) | skip
  · first | rfl | omega | (simp; done) | (simp; omega) | skip
  rintro ⟨i, out⟩ ⟨hi1, hi2, hi3, hi4⟩ ih
  try dsimp only at hi1 hi2 hi3 hi4
  repeat' (first
    | ((with_reducible refine S.go ?_); first | refine S.seq ?_ | refine S.skip ?_ | refine S.block ?_ | refine S.inBlock ?_ | refine S.exit rfl ?_ | refine S.regN ?_ | refine S.reg ?_ | refine S.drw hk.mo (by kernel_rfl) ?_ | refine S.ag (ih ((i + 1, _)) ?_ ?_) | (refine S.cond rfl (fun hc => ?_) (fun hc => ?_) <;> try simp only [HC] at hc) | refine S.retH hr rfl ?_ | refine S.finH hr rfl ?_ | (refine S.retK hr ?_; refine TRdt ?_) | fail)
    | ((first | with_reducible refine Ns.go ?_ | with_reducible refine XOs.go ?_ | with_reducible refine XDs.go ?_ | with_reducible refine OK.go ?_); (first | refine TTdt ?_ | (apply Ns.sc ⟨rfl, rfl⟩ rfl; intro hg) | (refine OK.tr ?_; refine TTdt ?_)); (try simp only [HC] at hg))
    | with_reducible exact rfl | exact ⟨rfl, rfl, rfl⟩
    | ((with_reducible refine RunsT.go ?_); first | refine RunsF.apf (h1 _ (by omega)) rfl ?_ | refine RunsF.apf (h2 _ hs) rfl ?_ | refine RunsF.apf (h3 _ _ hs) rfl ?_ | fail)
    | ((with_reducible refine RunsD.go ?_); first | refine RunsF.apd (h1 _ (by omega)) rfl ?_ | refine RunsF.apd (h2 _ hs) rfl ?_ | refine RunsF.apd (h3 _ _ hs) rfl ?_ | fail)
    | ((with_reducible refine Gd.go ?_); refine Gd.on (fun hg => ?_) (fun hg => ?_) <;> refine TGdt ?_ <;> (try simp only [HC] at hg))
    | ((with_reducible refine Fin.go ?_); first | (refine Fin.p ?_; first | exact FT | (try refine TTdt ?_; try simp only [LF])) | refine Fin.a0 ?_ | refine Fin.a ?_ | refine Fin.ni ?_ | refine Fin.v ?_ ?_ | refine Fin.r ?_ ?_ | exact Fin.th | (refine Fin.t ?_; try simp only [AV.sl.injEq]))
    | (refine And.go ?_; refine AndI ?_)
    | fail)
  all_goals (try clear ih)
  all_goals (try dsimp only)
  all_goals (repeat' apply And.intro)
  all_goals first | omega | (simp only [ZL]; omega) | skip
  all_goals (try clear hr hk hB)
  all_goals first | (intro _; exact ⟨hc.1.2, hc.2⟩) | (rw [map_next (by omega), ← hi2]; done) | skip
  rw [show out = prof names c from ?_]
  by_cases h0 : 0 < i
  · have h4 := hi4 h0
    rw [prof_yes h4.1 h4.2, hi2, List.take_of_length_le]
    rcases hc with (h | h) | h
    · omega
    · rw [h4.1] at h; cases h
    · rw [h4.2] at h; cases h
  · have : i = 0 := by omega
    subst this
    rw [hi2]
    rcases hc with (h | h) | h
    · have : names = [] := List.eq_nil_of_length_eq_zero (by omega)
      rw [this]; rfl
    · rw [prof_no (.inl h)]; rfl
    · rw [prof_no (.inr h)]; rfl
theorem rnk_in {r : List Int} {m : Nat} (h : isRnk r m = true) (i : Nat) : r.length ≤ i ∨ (0 ≤ r.getD i default ∧ r.getD i default < m) := by
  by_cases hi : i < r.length
  · right
    simp only [isRnk, Bool.and_eq_true] at h
    have := allAt_true.mp h.1 i hi
    simp only [rnkAt, Bool.and_eq_true, decide_eq_true_eq] at this
    exact this.1
  · left; omega
def C_cmp (P : Program) (k : Nat) : Prop := ∀ a b r : List Int, a.length ≤ 4294967295 → b.length ≤ 4294967295 → r.length ≤ 4294967295 → RunsF P k [.sl (enc a), .sl (enc b), .sl (enc r)] (.int .i64 (cmpM a b r))
/-- impl.CompareMarks -/
def i_CompareMarks.x (c_i_IsRanking : Nat) : XCode :=
  (.seq
    (.reg [⟨(some 6), .mv, [.k (.int .i64 0)], none⟩] [0, 1, 2])
    (.seq
      (.seq
        (.reg (flatNs none (nl [.op (some 9) .mv [.t 0], .op (some 10) .lenL [.t 9], .op (some 11) .mv [.t 1], .op (some 12) .lenL [.t 11], .op (some 13) (.bin .neq) [.t 10, .t 12], .op (some 14) .mv [.t 13], .sc 14 false (nl [.op (some 15) .mv [.t 2], .op (some 16) .mv [.t 0], .op (some 17) .lenL [.t 16], .op (some 18) .call [.k (.fn c_i_IsRanking []), .t 15, .t 17], .op (some 19) (.un .not) [.t 18]]) (.t 19) (some 20)])) [0, 1, 2, 20])
        (.cond (.t 20)
          (.seq
            (.reg [⟨(some 6), .mv, [.k (.int .i64 0)], none⟩] [6])
            .ret)
          .skip))
      (.seq
        (.seq
          (.reg [⟨(some 21), .mv, [.t 2], none⟩,
            ⟨(some 22), .lenL, [.t 21], none⟩,
            ⟨(some 23), .mv, [.k (.int .i64 0)], none⟩] [0, 1, 21, 22, 23])
          (.block 0
            (.loop
              (.seq
                (.reg [⟨(some 24), (.bin .lss), [.t 23, .t 22], none⟩] [0, 1, 21, 22, 23, 24])
                (.seq
                  (.cond (.t 24)
                    .skip
                    (.exit 0))
                  (.seq
                    (.block 1
                      (.seq
                        (.reg [⟨(some 25), (.idxA 1), [.t 21, .t 23], none⟩,
                          ⟨(some 26), (.ld none), [.t 25], none⟩,
                          ⟨(some 8), .mv, [.t 26], none⟩] [0, 1, 8, 21, 22, 23])
                        (.block 2
                          (.seq
                            (.drw [(⟨(some 28), .mv, [.t 0], none⟩, []),
                              (⟨(some 29), .mv, [.t 8], none⟩, []),
                              (⟨(some 30), (.idxA 1), [.t 28, .t 29], none⟩, [0, 1]),
                              (⟨(some 31), (.ld none), [.t 30], none⟩, [2]),
                              (⟨(some 32), .mv, [.t 1], none⟩, []),
                              (⟨(some 33), .mv, [.t 8], none⟩, []),
                              (⟨(some 34), (.idxA 1), [.t 32, .t 33], none⟩, [4, 5]),
                              (⟨(some 35), (.ld none), [.t 34], none⟩, [6]),
                              (⟨(some 36), (.bin .lss), [.t 31, .t 35], none⟩, [3, 7]),
                              (⟨(some 27), .mv, [.t 36], none⟩, [8])] [0, 1, 8, 21, 22, 23, 27] [0, 0, 0, 0, 0, 0, 0, 0, 0, 0])
                            (.cond (.t 27)
                              (.seq
                                (.reg [⟨(some 6), .mv, [.k (.int .i64 (-1))], none⟩] [6])
                                .ret)
                              (.seq
                                (.drw [(⟨(some 38), .mv, [.t 0], none⟩, []),
                                  (⟨(some 39), .mv, [.t 8], none⟩, []),
                                  (⟨(some 40), (.idxA 1), [.t 38, .t 39], none⟩, [0, 1]),
                                  (⟨(some 41), (.ld none), [.t 40], none⟩, [2]),
                                  (⟨(some 42), .mv, [.t 1], none⟩, []),
                                  (⟨(some 43), .mv, [.t 8], none⟩, []),
                                  (⟨(some 44), (.idxA 1), [.t 42, .t 43], none⟩, [4, 5]),
                                  (⟨(some 45), (.ld none), [.t 44], none⟩, [6]),
                                  (⟨(some 46), (.bin .gtr), [.t 41, .t 45], none⟩, [3, 7]),
                                  (⟨(some 37), .mv, [.t 46], none⟩, [8])] [0, 1, 21, 22, 23, 37] [0, 0, 0, 0, 0, 0, 0, 0, 0, 0])
                                (.cond (.t 37)
                                  (.seq
                                    (.reg [⟨(some 6), .mv, [.k (.int .i64 1)], none⟩] [6])
                                    .ret)
                                  .skip)))))))
                    (.reg [⟨(some 47), (.bin .add), [.t 23, .k (.int .i64 1)], none⟩,
                      ⟨(some 23), .mv, [.t 47], none⟩] [0, 1, 21, 22, 23])))))))
        (.seq
          (.reg [⟨(some 6), .mv, [.k (.int .i64 0)], none⟩] [6])
          .ret))))
def i_CompareMarks.F : Cfg := ⟨fun _ => 0, fun r => match r with | 0 => [0, 1, 2] | 1 => [0, 1, 2, 20] | 2 => [6] | 3 => [0, 1, 21, 22, 23] | 4 => [0, 1, 21, 22, 23, 24] | 5 => [0, 1, 8, 21, 22, 23] | 6 => [0, 1, 8, 21, 22, 23, 27] | 7 => [6] | 8 => [0, 1, 21, 22, 23, 37] | 9 => [6] | 10 => [0, 1, 21, 22, 23] | 11 => [6] | 1000006 => [0, 0, 0, 0, 0, 0, 0, 0, 0, 0] | 1000008 => [0, 0, 0, 0, 0, 0, 0, 0, 0, 0] | _ => []⟩
def i_CompareMarks.X (c_i_IsRanking : Nat) : FX := ⟨48, [.tmp 6], i_CompareMarks.F, i_CompareMarks.x c_i_IsRanking⟩

theorem i_CompareMarks.ok {P : Program} {k c_i_IsRanking : Nat} (hk : Has P k (i_CompareMarks.X c_i_IsRanking)) (h1 : C_IsRanking P c_i_IsRanking) : C_cmp P k := by
  intro a b r ha hb hs n H
  have hq0 := @rnk_in r a.length
  refine S.ofX hk rfl fun hB fn hr => ?_
  unfold i_CompareMarks.x
  repeat' (first
    | ((with_reducible refine S.go ?_); first | refine S.seq ?_ | refine S.skip ?_ | refine S.block ?_ | refine S.inBlock ?_ | refine S.exit rfl ?_ | refine S.regN ?_ | refine S.reg ?_ | refine S.drw hk.mo (by kernel_rfl) ?_ | (refine S.cond rfl (fun hc => ?_) (fun hc => ?_) <;> try simp only [HC] at hc) | refine S.retH hr rfl ?_ | refine S.finH hr rfl ?_ | (refine S.retK hr ?_; refine TRdt ?_) | fail)
    | ((first | with_reducible refine Ns.go ?_ | with_reducible refine XOs.go ?_ | with_reducible refine XDs.go ?_ | with_reducible refine OK.go ?_); (first | refine TTdt ?_ | (apply Ns.sc ⟨rfl, rfl⟩ rfl; intro hg) | (refine OK.tr ?_; refine TTdt ?_)); (try simp only [HC] at hg))
    | with_reducible exact rfl | exact ⟨rfl, rfl, rfl⟩
    | ((with_reducible refine RunsT.go ?_); first | refine RunsF.apf (h1 _ _ hs) rfl ?_ | fail)
    | ((with_reducible refine RunsD.go ?_); first | refine RunsF.apd (h1 _ _ hs) rfl ?_ | fail)
    | ((with_reducible refine Gd.go ?_); refine Gd.on (fun hg => ?_) (fun hg => ?_) <;> refine TGdt ?_ <;> (try simp only [HC] at hg))
    | ((with_reducible refine Fin.go ?_); first | (refine Fin.p ?_; first | exact FT | (try refine TTdt ?_; try simp only [LF])) | refine Fin.a0 ?_ | refine Fin.a ?_ | refine Fin.ni ?_ | refine Fin.v ?_ ?_ | refine Fin.r ?_ ?_ | exact Fin.th | (refine Fin.t ?_; try simp only [AV.sl.injEq]))
    | (refine And.go ?_; refine AndI ?_)
    | fail)
  · rw [cmpM, if_neg (by rcases hc with h | h; all_goals (rintro ⟨h1, h2⟩; first | (rw [h1] at h; cases h; done) | omega))]
  have hcc : isRnk r a.length = true ∧ a.length = b.length := by constructor; (first | exact hc.1 | exact hc.2); omega
  refine S.loopV (σ := Nat) [0, 1, 21, 22, 23] (fun s => [(23, .int .i64 (s : Int))]) (fun s => s ≤ r.length ∧ cmpG a b r = cmpG a b (r.drop s)) (fun s => n) (fun s => H) (fun s => r.length - s) (0) (⟨by omega, ?_⟩) ?_
  · first | rfl | omega | (simp; done) | (simp; omega) | skip
  rintro i ⟨hi1, hi2⟩ ih
  try dsimp only at hi1 hi2
  have hq := hq0 hcc.1 i
  repeat' (first
    | ((with_reducible refine S.go ?_); first | refine S.seq ?_ | refine S.skip ?_ | refine S.block ?_ | refine S.inBlock ?_ | refine S.exit rfl ?_ | refine S.regN ?_ | refine S.reg ?_ | refine S.drw hk.mo (by kernel_rfl) ?_ | refine S.ag (ih (i + 1) ?_ ?_) | (refine S.cond rfl (fun hc => ?_) (fun hc => ?_) <;> try simp only [HC] at hc) | refine S.retH hr rfl ?_ | refine S.finH hr rfl ?_ | (refine S.retK hr ?_; refine TRdt ?_) | fail)
    | ((first | with_reducible refine Ns.go ?_ | with_reducible refine XOs.go ?_ | with_reducible refine XDs.go ?_ | with_reducible refine OK.go ?_); (first | refine TTdt ?_ | (apply Ns.sc ⟨rfl, rfl⟩ rfl; intro hg) | (refine OK.tr ?_; refine TTdt ?_)); (try simp only [HC] at hg))
    | with_reducible exact rfl | exact ⟨rfl, rfl, rfl⟩
    | ((with_reducible refine Gd.go ?_); refine Gd.on (fun hg => ?_) (fun hg => ?_) <;> refine TGdt ?_ <;> (try simp only [HC] at hg))
    | ((with_reducible refine Fin.go ?_); first | (refine Fin.p ?_; first | exact FT | (try refine TTdt ?_; try simp only [LF])) | refine Fin.a0 ?_ | refine Fin.a ?_ | refine Fin.ni ?_ | refine Fin.v ?_ ?_ | refine Fin.r ?_ ?_ | exact Fin.th | (refine Fin.t ?_; try simp only [AV.sl.injEq]))
    | (refine And.go ?_; refine AndI ?_)
    | fail)
  all_goals (try clear ih)
  all_goals (try dsimp only)
  all_goals (repeat' apply And.intro)
  all_goals first | omega | (simp only [ZL]; omega) | skip
  all_goals (try clear hr hk hB)
  all_goals first | (rw [cmpM, if_pos hcc, hi2, cmpG_drop (by omega), if_pos hc]; done) | (rw [cmpM, if_pos hcc, hi2, cmpG_drop (by omega), if_neg (by omega), if_pos hc]; done) | (rw [hi2, cmpG_drop (by omega), if_neg (by omega), if_neg (by omega)]; done) | (rw [cmpM, if_pos hcc, hi2, List.drop_eq_nil_of_le (by omega)]; rfl)
/-- spec.CompareMarks -/
def s_CompareMarks.x (c_s_IsRanking : Nat) : XCode :=
  (.seq
    (.reg [⟨(some 6), .mv, [.k (.int .i64 0)], none⟩] [0, 1, 2])
    (.seq
      (.seq
        (.reg (flatNs none (nl [.op (some 8) .mv [.t 2], .op (some 9) .mv [.t 0], .op (some 10) .lenL [.t 9], .op (some 11) .call [.k (.fn c_s_IsRanking []), .t 8, .t 10], .op (some 12) (.un .not) [.t 11], .op (some 13) .mv [.t 12], .sc 13 false (nl [.op (some 14) .mv [.t 0], .op (some 15) .lenL [.t 14], .op (some 16) .mv [.t 1], .op (some 17) .lenL [.t 16], .op (some 18) (.bin .neq) [.t 15, .t 17]]) (.t 18) (some 19)])) [0, 1, 2, 19])
        (.cond (.t 19)
          (.seq
            (.reg [⟨(some 6), .mv, [.k (.int .i64 0)], none⟩] [6])
            .ret)
          .skip))
      (.seq
        (.seq
          (.reg [⟨(some 7), .mv, [.k (.int .i64 0)], none⟩] [0, 1, 2, 7])
          (.block 0
            (.loop
              (.seq
                (.seq
                  (.reg [⟨(some 20), .mv, [.t 7], none⟩,
                    ⟨(some 21), .mv, [.t 2], none⟩,
                    ⟨(some 22), .lenL, [.t 21], none⟩,
                    ⟨(some 23), (.bin .lss), [.t 20, .t 22], none⟩] [0, 1, 2, 7, 23])
                  (.cond (.t 23)
                    .skip
                    (.exit 0)))
                (.seq
                  (.block 1
                    (.seq
                      (.seq
                        (.drw [(⟨(some 26), .mv, [.t 0], none⟩, []),
                          (⟨(some 27), .mv, [.t 2], none⟩, []),
                          (⟨(some 28), .mv, [.t 7], none⟩, []),
                          (⟨(some 29), (.idxA 1), [.t 27, .t 28], none⟩, [1, 2]),
                          (⟨(some 30), (.ld none), [.t 29], none⟩, [3]),
                          (⟨(some 31), (.idxA 1), [.t 26, .t 30], none⟩, [0, 4]),
                          (⟨(some 32), (.ld none), [.t 31], none⟩, [5]),
                          (⟨(some 33), .mv, [.t 1], none⟩, []),
                          (⟨(some 34), .mv, [.t 2], none⟩, []),
                          (⟨(some 35), .mv, [.t 7], none⟩, []),
                          (⟨(some 36), (.idxA 1), [.t 34, .t 35], none⟩, [8, 9]),
                          (⟨(some 37), (.ld none), [.t 36], none⟩, [10]),
                          (⟨(some 38), (.idxA 1), [.t 33, .t 37], none⟩, [7, 11]),
                          (⟨(some 39), (.ld none), [.t 38], none⟩, [12]),
                          (⟨(some 40), (.bin .lss), [.t 32, .t 39], none⟩, [6, 13])] [0, 1, 2, 7, 40] [0, 0, 0, 0, 0, 0, 0, 0, 0, 0, 0, 0, 0, 0, 0])
                        (.cond (.t 40)
                          (.seq
                            (.reg [⟨(some 6), .mv, [.k (.int .i64 (-1))], none⟩] [6])
                            .ret)
                          .skip))
                      (.seq
                        (.drw [(⟨(some 41), .mv, [.t 0], none⟩, []),
                          (⟨(some 42), .mv, [.t 2], none⟩, []),
                          (⟨(some 43), .mv, [.t 7], none⟩, []),
                          (⟨(some 44), (.idxA 1), [.t 42, .t 43], none⟩, [1, 2]),
                          (⟨(some 45), (.ld none), [.t 44], none⟩, [3]),
                          (⟨(some 46), (.idxA 1), [.t 41, .t 45], none⟩, [0, 4]),
                          (⟨(some 47), (.ld none), [.t 46], none⟩, [5]),
                          (⟨(some 48), .mv, [.t 1], none⟩, []),
                          (⟨(some 49), .mv, [.t 2], none⟩, []),
                          (⟨(some 50), .mv, [.t 7], none⟩, []),
                          (⟨(some 51), (.idxA 1), [.t 49, .t 50], none⟩, [8, 9]),
                          (⟨(some 52), (.ld none), [.t 51], none⟩, [10]),
                          (⟨(some 53), (.idxA 1), [.t 48, .t 52], none⟩, [7, 11]),
                          (⟨(some 54), (.ld none), [.t 53], none⟩, [12]),
                          (⟨(some 55), (.bin .gtr), [.t 47, .t 54], none⟩, [6, 13])] [0, 1, 2, 7, 55] [0, 0, 0, 0, 0, 0, 0, 0, 0, 0, 0, 0, 0, 0, 0])
                        (.cond (.t 55)
                          (.seq
                            (.reg [⟨(some 6), .mv, [.k (.int .i64 1)], none⟩] [6])
                            .ret)
                          .skip))))
                  (.reg [⟨(some 24), .mv, [.t 7], none⟩,
                    ⟨(some 25), (.bin .add), [.t 24, .k (.int .i64 1)], none⟩,
                    ⟨(some 7), .mv, [.t 25], none⟩] [0, 1, 2, 7]))))))
        (.seq
          (.reg [⟨(some 6), .mv, [.k (.int .i64 0)], none⟩] [6])
          .ret))))
def s_CompareMarks.F : Cfg := ⟨fun _ => 0, fun r => match r with | 0 => [0, 1, 2] | 1 => [0, 1, 2, 19] | 2 => [6] | 3 => [0, 1, 2, 7] | 4 => [0, 1, 2, 7, 23] | 5 => [0, 1, 2, 7] | 6 => [0, 1, 2, 7, 40] | 7 => [6] | 8 => [0, 1, 2, 7, 55] | 9 => [6] | 10 => [6] | 1000006 => [0, 0, 0, 0, 0, 0, 0, 0, 0, 0, 0, 0, 0, 0, 0] | 1000008 => [0, 0, 0, 0, 0, 0, 0, 0, 0, 0, 0, 0, 0, 0, 0] | _ => []⟩
def s_CompareMarks.X (c_s_IsRanking : Nat) : FX := ⟨56, [.tmp 6], s_CompareMarks.F, s_CompareMarks.x c_s_IsRanking⟩

theorem s_CompareMarks.ok {P : Program} {k c_s_IsRanking : Nat} (hk : Has P k (s_CompareMarks.X c_s_IsRanking)) (h1 : C_IsRanking P c_s_IsRanking) : C_cmp P k := by
  intro a b r ha hb hs n H
  have hq0 := @rnk_in r a.length
  refine S.ofX hk rfl fun hB fn hr => ?_
  unfold s_CompareMarks.x
  repeat' (first
    | ((with_reducible refine S.go ?_); first | refine S.seq ?_ | refine S.skip ?_ | refine S.block ?_ | refine S.inBlock ?_ | refine S.exit rfl ?_ | refine S.regN ?_ | refine S.reg ?_ | refine S.drw hk.mo (by kernel_rfl) ?_ | (refine S.cond rfl (fun hc => ?_) (fun hc => ?_) <;> try simp only [HC] at hc) | refine S.retH hr rfl ?_ | refine S.finH hr rfl ?_ | (refine S.retK hr ?_; refine TRdt ?_) | fail)
    | ((first | with_reducible refine Ns.go ?_ | with_reducible refine XOs.go ?_ | with_reducible refine XDs.go ?_ | with_reducible refine OK.go ?_); (first | refine TTdt ?_ | (apply Ns.sc ⟨rfl, rfl⟩ rfl; intro hg) | (refine OK.tr ?_; refine TTdt ?_)); (try simp only [HC] at hg))
    | with_reducible exact rfl | exact ⟨rfl, rfl, rfl⟩
    | ((with_reducible refine RunsT.go ?_); first | refine RunsF.apf (h1 _ _ hs) rfl ?_ | fail)
    | ((with_reducible refine RunsD.go ?_); first | refine RunsF.apd (h1 _ _ hs) rfl ?_ | fail)
    | ((with_reducible refine Gd.go ?_); refine Gd.on (fun hg => ?_) (fun hg => ?_) <;> refine TGdt ?_ <;> (try simp only [HC] at hg))
    | ((with_reducible refine Fin.go ?_); first | (refine Fin.p ?_; first | exact FT | (try refine TTdt ?_; try simp only [LF])) | refine Fin.a0 ?_ | refine Fin.a ?_ | refine Fin.ni ?_ | refine Fin.v ?_ ?_ | refine Fin.r ?_ ?_ | exact Fin.th | (refine Fin.t ?_; try simp only [AV.sl.injEq]))
    | (refine And.go ?_; refine AndI ?_)
    | fail)
  · rw [cmpM, if_neg (by rcases hc with h | h; all_goals (rintro ⟨h1, h2⟩; first | (rw [h1] at h; cases h; done) | omega))]
  have hcc : isRnk r a.length = true ∧ a.length = b.length := by constructor; (first | exact hc.1 | exact hc.2); omega
  refine S.loopV (σ := Nat) [0, 1, 2, 7] (fun s => [(7, .int .i64 (s : Int))]) (fun s => s ≤ r.length ∧ cmpG a b r = cmpG a b (r.drop s)) (fun s => n) (fun s => H) (fun s => r.length - s) (0) (⟨by omega, ?_⟩) ?_
  · first | rfl | omega | (simp; done) | (simp; omega) | skip
  rintro i ⟨hi1, hi2⟩ ih
  try dsimp only at hi1 hi2
  have hq := hq0 hcc.1 i
  repeat' (first
    | ((with_reducible refine S.go ?_); first | refine S.seq ?_ | refine S.skip ?_ | refine S.block ?_ | refine S.inBlock ?_ | refine S.exit rfl ?_ | refine S.regN ?_ | refine S.reg ?_ | refine S.drw hk.mo (by kernel_rfl) ?_ | refine S.ag (ih (i + 1) ?_ ?_) | (refine S.cond rfl (fun hc => ?_) (fun hc => ?_) <;> try simp only [HC] at hc) | refine S.retH hr rfl ?_ | refine S.finH hr rfl ?_ | (refine S.retK hr ?_; refine TRdt ?_) | fail)
    | ((first | with_reducible refine Ns.go ?_ | with_reducible refine XOs.go ?_ | with_reducible refine XDs.go ?_ | with_reducible refine OK.go ?_); (first | refine TTdt ?_ | (apply Ns.sc ⟨rfl, rfl⟩ rfl; intro hg) | (refine OK.tr ?_; refine TTdt ?_)); (try simp only [HC] at hg))
    | with_reducible exact rfl | exact ⟨rfl, rfl, rfl⟩
    | ((with_reducible refine Gd.go ?_); refine Gd.on (fun hg => ?_) (fun hg => ?_) <;> refine TGdt ?_ <;> (try simp only [HC] at hg))
    | ((with_reducible refine Fin.go ?_); first | (refine Fin.p ?_; first | exact FT | (try refine TTdt ?_; try simp only [LF])) | refine Fin.a0 ?_ | refine Fin.a ?_ | refine Fin.ni ?_ | refine Fin.v ?_ ?_ | refine Fin.r ?_ ?_ | exact Fin.th | (refine Fin.t ?_; try simp only [AV.sl.injEq]))
    | (refine And.go ?_; refine AndI ?_)
    | fail)
  all_goals (try clear ih)
  all_goals (try dsimp only)
  all_goals (repeat' apply And.intro)
  all_goals first | omega | (simp only [ZL]; omega) | skip
  all_goals (try clear hr hk hB)
  all_goals first | (rw [cmpM, if_pos hcc, hi2, cmpG_drop (by omega), if_pos hc]; done) | (rw [cmpM, if_pos hcc, hi2, cmpG_drop (by omega), if_neg (by omega), if_pos hc]; done) | (rw [hi2, cmpG_drop (by omega), if_neg (by omega), if_neg (by omega)]; done) | (rw [cmpM, if_pos hcc, hi2, List.drop_eq_nil_of_le (by omega)]; rfl)
end Go.G07
end
section
namespace Go.G08
open Go.Ab Siz Go.Lib01 Go.Lib03 Go.M01 Go.M02 Go.N02 Go.G01 Go.G02 Go.G03 Go.G04 Go.G05 Go.G06 Go.G07
set_option linter.unusedVariables false
set_option linter.unusedSimpArgs false
set_option maxRecDepth 2000
/-- What is frozen within a struct within several results. -/
def fza : AV → AV
  | .agg vs => .agg (vs.map fz)
  | v => fz v
def fzu : AV → AV
  | .tup vs => .tup (vs.map fza)
  | v => fzt v
theorem fza_rel {g : Ghost} {n : Nat} {w : World} {v : AV} {c : Value} (h : VRel g n w v c) : VRel g n w (fza v) c := by
  cases v
  case agg vs => cases h with | agg _ cs h => exact .agg _ cs h.fzd
  all_goals exact h.fzd
theorem fza_rels {g : Ghost} {n : Nat} {w : World} {xs : List AV} {vs : List Value} (h : VRels g n w xs vs) : VRels g n w (xs.map fza) vs := by
  induction xs generalizing vs with
  | nil => cases h; exact .nil
  | cons a l ih => cases h with | cons _ v _ vs h t => exact .cons _ _ _ _ (fza_rel h) (ih t)
theorem fzu_rel {g : Ghost} {n : Nat} {w : World} {v : AV} {c : Value} (h : VRel g n w v c) : VRel g n w (fzu v) c := by
  cases v
  case tup vs => cases h with | tup _ cs h => exact .tup _ cs (fza_rels h)
  all_goals exact h.fztd
theorem fin_fzu {n0 n : Nat} {H : Heap} {v : AV} {R : AV → Nat → Heap → Prop} (h : Ab.Fin n0 n H (fzu v) R) : Ab.Fin n0 n H v R := fun g w c hn hv hh => h g w c hn (fzu_rel hv) hh
theorem fin_pu {n n0 : Nat} {v r : AV} {H H0 : Heap} (he : fzu v = r) (hB : HB n0 H0 := by assumption) (hs : H0.Sublist H := by exact Sub) (hb : below n0 (fzu v) = true := by rfl) : Ab.Fin n0 n H v (fun v' n' H' => v' = r ∧ n' = n0 ∧ H' = H0) :=
  fin_fzu (Ab.Fin.low hb hB hs ⟨he, rfl, rfl⟩)
def C_cop (P : Program) (k : Nat) : Prop := ∀ c : List Lnk, c.length ≤ 4294967295 → RunsF P k [.agg [.sl (enc c)]] (.agg [.sl (enc c)])
/-- impl.Candidate).copied -/
def impl_Candidate_copied.x (c_slices_Clone_impl_Link_impl_Link : Nat) : XCode :=
  (.seq
    (.reg [⟨(some 1), .boxF, [.t 0], none⟩,
      ⟨(some 2), (.alloc [.nilsl]), [], none⟩] [1, 2])
    (.seq
      (.reg [⟨(some 3), (.fldA 0), [.t 1], none⟩,
        ⟨(some 4), (.ld none), [.t 3], none⟩,
        ⟨(some 5), .call, [.k (.fn c_slices_Clone_impl_Link_impl_Link []), .t 4], none⟩,
        ⟨(some 6), (.build [.nilsl] [(0, 1)]), [.t 5], none⟩,
        ⟨none, (.st (some 1)), [.t 2, .t 6], none⟩] [2])
      .ret))
def impl_Candidate_copied.F : Cfg := ⟨fun _ => 0, fun r => match r with | 0 => [1, 2] | 1 => [2] | _ => []⟩
def impl_Candidate_copied.X (c_slices_Clone_impl_Link_impl_Link : Nat) : FX := ⟨7, [.cell 2 (some 1)], impl_Candidate_copied.F, impl_Candidate_copied.x c_slices_Clone_impl_Link_impl_Link⟩

theorem impl_Candidate_copied.ok {P : Program} {k c_slices_Clone_impl_Link_impl_Link : Nat} (hk : Has P k (impl_Candidate_copied.X c_slices_Clone_impl_Link_impl_Link)) (h1 : O_cloneL P c_slices_Clone_impl_Link_impl_Link) : C_cop P k := by
  intro c hs n H
  have k1 := (h1 c hs).f
  refine S.ofX hk rfl fun hB fn hr => ?_
  unfold impl_Candidate_copied.x
  repeat' (first
    | ((with_reducible refine S.go ?_); first | refine S.seq ?_ | refine S.skip ?_ | refine S.block ?_ | refine S.inBlock ?_ | refine S.exit rfl ?_ | refine S.regN ?_ | refine S.reg ?_ | refine S.drw hk.mo (by kernel_rfl) ?_ | (refine S.cond rfl (fun hc => ?_) (fun hc => ?_) <;> try simp only [HC] at hc) | refine S.retH hr rfl ?_ | refine S.finH hr rfl ?_ | (refine S.retK hr ?_; refine TRdt ?_) | fail)
    | ((first | with_reducible refine Ns.go ?_ | with_reducible refine XOs.go ?_ | with_reducible refine XDs.go ?_ | with_reducible refine OK.go ?_); (first | refine TTdt ?_ | (apply Ns.sc ⟨rfl, rfl⟩ rfl; intro hg) | (refine OK.tr ?_; refine TTdt ?_)); (try simp only [HC] at hg))
    | with_reducible exact rfl | exact ⟨rfl, rfl, rfl⟩
    | ((with_reducible refine RunsT.go ?_); first | refine RunsF.apf (k1) rfl ?_ | fail)
    | ((with_reducible refine RunsD.go ?_); first | refine RunsF.apd (k1) rfl ?_ | fail)
    | ((with_reducible refine Gd.go ?_); refine Gd.on (fun hg => ?_) (fun hg => ?_) <;> refine TGdt ?_ <;> (try simp only [HC] at hg))
    | ((with_reducible refine Fin.go ?_); first | (refine Fin.p ?_; first | exact FT | (try refine TTdt ?_; try simp only [LF])) | refine Fin.a0 ?_ | refine Fin.a ?_ | refine Fin.ni ?_ | refine Fin.v ?_ ?_ | refine Fin.r ?_ ?_ | exact Fin.th | (refine Fin.t ?_; try simp only [AV.sl.injEq]))
    | (refine And.go ?_; refine AndI ?_)
    | fail)
  all_goals (try clear hr hk hB)
  all_goals skip
def ltp (names : List (List UInt8)) (r : List Int) (a b : List Lnk) : Bool := decide (cmpM (prof names a) (prof names b) r < 0)
def bestQ (l : List (List Lnk)) (names : List (List UInt8)) (r : List Int) : List Lnk × Bool := if isGram names r = true ∧ l ≠ [] then (bestL (ltp names r) l (l.getD 0 default), true) else ([], false)
theorem cmpG_self (a : List Int) : ∀ r, cmpG a a r = 0
  | [] => rfl
  | k :: r => by rw [cmpG, if_neg (by omega), if_neg (by omega), cmpG_self a r]
theorem ltp_self (names : List (List UInt8)) (r : List Int) (a : List Lnk) : ltp names r a a = false := by
  unfold ltp cmpM
  split
  · rw [cmpG_self]; rfl
  · rfl
def C_best (P : Program) (k : Nat) : Prop := ∀ (l : List (List Lnk)) (names : List (List UInt8)) (r : List Int), l.length ≤ 1000000000 → (∀ c ∈ l, c.length ≤ 1000) → names.length ≤ 4294967295 → r.length ≤ 4294967295 →
  RunsF P k [.sl (enc l), .sl (enc names), .sl (enc r)] (.tup [.agg [.sl (enc (bestQ l names r).1)], .bool (bestQ l names r).2])
/-- impl.best -/
def i_best.x (c_i_isGrammar c_i_ProfileOf c_i_CompareMarks c_impl_Candidate_copied : Nat) : XCode :=
  (.seq
    (.reg [⟨(some 6), (.alloc [.nilsl]), [], none⟩,
      ⟨(some 7), .mv, [.k (.bool false)], none⟩] [0, 1, 2, 6])
    (.seq
      (.seq
        (.reg (flatNs none (nl [.op (some 13) .mv [.t 1], .op (some 14) .mv [.t 2], .op (some 15) .call [.k (.fn c_i_isGrammar []), .t 13, .t 14], .op (some 16) (.un .not) [.t 15], .op (some 17) .mv [.t 16], .sc 17 false (nl [.op (some 18) .mv [.t 0], .op (some 19) .lenL [.t 18], .op (some 20) (.bin .eql) [.t 19, .k (.int .i64 0)]]) (.t 20) (some 21)])) [0, 1, 2, 6, 21])
        (.cond (.t 21)
          (.seq
            (.reg [⟨(some 22), (.build [.nilsl] []), [], none⟩,
              ⟨none, (.st (some 1)), [.t 6, .t 22], none⟩,
              ⟨(some 7), .mv, [.k (.bool false)], none⟩] [6, 7])
            .ret)
          .skip))
      (.seq
        (.drw [(⟨(some 23), .mv, [.t 0], none⟩, []),
          (⟨(some 24), (.idxA 1), [.t 23, .k (.int .i64 0)], none⟩, [0]),
          (⟨(some 25), (.ld (some 1)), [.t 24], none⟩, [1]),
          (⟨(some 26), .mv, [.t 1], none⟩, []),
          (⟨(some 27), .mv, [.t 0], none⟩, []),
          (⟨(some 28), (.idxA 1), [.t 27, .k (.int .i64 0)], none⟩, [4]),
          (⟨(some 29), (.ld (some 1)), [.t 28], none⟩, [5]),
          (⟨(some 30), .call, [.k (.fn c_i_ProfileOf []), .t 26, .t 29], none⟩, [3, 6]),
          (⟨(some 8), (.alloc [.nilsl]), [], none⟩, []),
          (⟨none, (.st (some 1)), [.t 8, .t 25], none⟩, [8, 2, 7, 0, 1, 2, 8]),
          (⟨(some 9), .mv, [.t 30], none⟩, [7, 9, 0, 1, 2, 3, 4, 5, 6, 7, 8, 9])] [0, 1, 2, 6, 8, 9] [0, 0, 0, 0, 0, 0, 0, 0, 2, 2, 0])
        (.seq
          (.seq
            (.reg [⟨(some 31), .mv, [.t 0], none⟩,
              ⟨(some 32), .lenL, [.t 31], none⟩,
              ⟨(some 33), .mv, [.k (.int .i64 0)], none⟩] [1, 2, 6, 8, 9, 31, 32, 33])
            (.block 0
              (.loop
                (.seq
                  (.reg [⟨(some 34), (.bin .lss), [.t 33, .t 32], none⟩] [1, 2, 6, 8, 9, 31, 32, 33, 34])
                  (.seq
                    (.cond (.t 34)
                      .skip
                      (.exit 0))
                    (.seq
                      (.block 1
                        (.seq
                          (.reg [⟨(some 35), (.idxA 1), [.t 31, .t 33], none⟩,
                            ⟨(some 36), (.ld (some 1)), [.t 35], none⟩,
                            ⟨(some 11), (.alloc [.nilsl]), [], none⟩,
                            ⟨none, (.st (some 1)), [.t 11, .t 36], none⟩] [1, 2, 6, 8, 9, 11, 31, 32, 33])
                          (.seq
                            (.reg [⟨(some 37), .mv, [.t 1], none⟩,
                              ⟨(some 38), (.ld (some 1)), [.t 11], none⟩,
                              ⟨(some 39), .call, [.k (.fn c_i_ProfileOf []), .t 37, .t 38], none⟩,
                              ⟨(some 12), .mv, [.t 39], none⟩] [1, 2, 6, 8, 9, 11, 12, 31, 32, 33])
                            (.seq
                              (.reg [⟨(some 40), .mv, [.t 12], none⟩,
                                ⟨(some 41), .mv, [.t 9], none⟩,
                                ⟨(some 42), .mv, [.t 2], none⟩,
                                ⟨(some 43), .call, [.k (.fn c_i_CompareMarks []), .t 40, .t 41, .t 42], none⟩,
                                ⟨(some 44), (.bin .lss), [.t 43, .k (.int .i64 0)], none⟩] [1, 2, 6, 8, 9, 11, 12, 31, 32, 33, 44])
                              (.cond (.t 44)
                                (.reg [⟨(some 45), (.ld (some 1)), [.t 11], none⟩,
                                  ⟨(some 46), .mv, [.t 12], none⟩,
                                  ⟨none, (.st (some 1)), [.t 8, .t 45], none⟩,
                                  ⟨(some 9), .mv, [.t 46], none⟩] [1, 2, 6, 8, 9, 31, 32, 33])
                                .skip)))))
                      (.reg [⟨(some 47), (.bin .add), [.t 33, .k (.int .i64 1)], none⟩,
                        ⟨(some 33), .mv, [.t 47], none⟩] [1, 2, 6, 8, 9, 31, 32, 33])))))))
          (.seq
            (.reg [⟨(some 48), (.ld (some 1)), [.t 8], none⟩,
              ⟨(some 49), .call, [.k (.fn c_impl_Candidate_copied []), .t 48], none⟩,
              ⟨none, (.st (some 1)), [.t 6, .t 49], none⟩,
              ⟨(some 7), .mv, [.k (.bool true)], none⟩] [6, 7])
            .ret)))))
def i_best.F : Cfg := ⟨fun _ => 0, fun r => match r with | 0 => [0, 1, 2, 6] | 1 => [0, 1, 2, 6, 21] | 2 => [6, 7] | 3 => [0, 1, 2, 6, 8, 9] | 4 => [1, 2, 6, 8, 9, 31, 32, 33] | 5 => [1, 2, 6, 8, 9, 31, 32, 33, 34] | 6 => [1, 2, 6, 8, 9, 11, 31, 32, 33] | 7 => [1, 2, 6, 8, 9, 11, 12, 31, 32, 33] | 8 => [1, 2, 6, 8, 9, 11, 12, 31, 32, 33, 44] | 9 => [1, 2, 6, 8, 9, 31, 32, 33] | 10 => [1, 2, 6, 8, 9, 31, 32, 33] | 11 => [6, 7] | 1000003 => [0, 0, 0, 0, 0, 0, 0, 0, 2, 2, 0] | _ => []⟩
def i_best.X (c_i_isGrammar c_i_ProfileOf c_i_CompareMarks c_impl_Candidate_copied : Nat) : FX := ⟨50, [.cell 6 (some 1), .tmp 7], i_best.F, i_best.x c_i_isGrammar c_i_ProfileOf c_i_CompareMarks c_impl_Candidate_copied⟩

theorem i_best.ok {P : Program} {k c_i_isGrammar c_i_ProfileOf c_i_CompareMarks c_impl_Candidate_copied : Nat} (hk : Has P k (i_best.X c_i_isGrammar c_i_ProfileOf c_i_CompareMarks c_impl_Candidate_copied)) (h1 : C_isGrammar P c_i_isGrammar) (h2 : C_prof P c_i_ProfileOf) (h3 : C_cmp P c_i_CompareMarks) (h4 : C_cop P c_impl_Candidate_copied) : C_best P k := by
  intro l names r hl hc0 hn hr1 n H
  have hq0 := lenD hc0 0
  refine S.ofX hk rfl fun hB fn hr => ?_
  unfold i_best.x
  repeat' (first
    | ((with_reducible refine S.go ?_); first | refine S.seq ?_ | refine S.skip ?_ | refine S.block ?_ | refine S.inBlock ?_ | refine S.exit rfl ?_ | refine S.regN ?_ | refine S.reg ?_ | refine S.drw hk.mo (by kernel_rfl) ?_ | (refine S.cond rfl (fun hc => ?_) (fun hc => ?_) <;> try simp only [HC] at hc) | refine S.retH hr rfl ?_ | refine S.finH hr rfl ?_ | (refine S.retK hr ?_; refine TRdt ?_) | fail)
    | ((first | with_reducible refine Ns.go ?_ | with_reducible refine XOs.go ?_ | with_reducible refine XDs.go ?_ | with_reducible refine OK.go ?_); (first | refine TTdt ?_ | (apply Ns.sc ⟨rfl, rfl⟩ rfl; intro hg) | (refine OK.tr ?_; refine TTdt ?_)); (try simp only [HC] at hg))
    | with_reducible exact rfl | exact ⟨rfl, rfl, rfl⟩
    | ((with_reducible refine RunsT.go ?_); first | refine RunsF.apf (h1 _ _ hn hr1) rfl ?_ | refine RunsF.apf (h2 _ _ hn (by omega)) rfl ?_ | fail)
    | ((with_reducible refine RunsD.go ?_); first | refine RunsF.apd (h1 _ _ hn hr1) rfl ?_ | refine RunsF.apd (h2 _ _ hn (by omega)) rfl ?_ | fail)
    | (refine fin_pu ?_; simp only [fzu, fza, fz, List.map_cons, List.map_nil, AV.tup.injEq, List.cons.injEq, AV.agg.injEq, AV.sl.injEq, AV.bool.injEq, and_true])
    | ((with_reducible refine Gd.go ?_); refine Gd.on (fun hg => ?_) (fun hg => ?_) <;> refine TGdt ?_ <;> (try simp only [HC] at hg))
    | ((with_reducible refine Fin.go ?_); first | (refine Fin.p ?_; first | exact FT | (try refine TTdt ?_; try simp only [LF])) | refine Fin.a0 ?_ | refine Fin.a ?_ | refine Fin.ni ?_ | refine Fin.v ?_ ?_ | refine Fin.r ?_ ?_ | exact Fin.th | (refine Fin.t ?_; try simp only [AV.sl.injEq]))
    | (refine And.go ?_; refine AndI ?_)
    | fail)
  · rw [bestQ, if_neg (by rintro ⟨e1, e2⟩; rcases hc with h | h; (rw [h] at e1; cases e1); (exact e2 (List.eq_nil_of_length_eq_zero (by omega))))]; exact ⟨rfl, rfl⟩
  have hq1 : (l.getD 0 default).length ≤ 1000 := by rcases hq0 with h | h; (exact absurd hc.2 (by omega)); exact h
  have hcc : isGram names r = true ∧ l ≠ [] := ⟨hc.1, by rintro rfl; exact hc.2 rfl⟩
  generalize hb0 : l.getD 0 default = b0 at *
  refine S.loopV (σ := Nat × (List Lnk)) [1, 2, 6, 8, 9, 31, 32, 33] (fun s => [(9, .sl (enc (prof names s.2))), (33, .int .i64 (s.1 : Int))]) (fun s => s.1 ≤ l.length ∧ bestL (ltp names r) l b0 = bestL (ltp names r) (l.drop s.1) s.2 ∧ s.2.length ≤ 1000) (fun s => n + 1 + 1 + s.1) (fun s => (n + 1, .own [.sl (enc s.2)]) :: (n, .own [.nilsl]) :: H) (fun s => l.length - s.1) (0, b0) (⟨by omega, rfl, hq1⟩) ?_
  rintro ⟨i, b⟩ ⟨hi1, hi2, hi3⟩ ih
  try dsimp only at hi1 hi2 hi3
  have hq2 := lenD hc0 i
  have hp1 := prof_le names b
  have hp2 := prof_le names (l.getD i default)
  repeat' (first
    | ((with_reducible refine S.go ?_); first | refine S.seq ?_ | refine S.skip ?_ | refine S.block ?_ | refine S.inBlock ?_ | refine S.exit rfl ?_ | refine S.regN ?_ | refine S.reg ?_ | refine S.drw hk.mo (by kernel_rfl) ?_ | refine S.ag (ih ((i + 1, _)) ?_ ?_) | (refine S.cond rfl (fun hc => ?_) (fun hc => ?_) <;> try simp only [HC] at hc) | refine S.retH hr rfl ?_ | refine S.finH hr rfl ?_ | (refine S.retK hr ?_; refine TRdt ?_) | fail)
    | ((first | with_reducible refine Ns.go ?_ | with_reducible refine XOs.go ?_ | with_reducible refine XDs.go ?_ | with_reducible refine OK.go ?_); (first | refine TTdt ?_ | (apply Ns.sc ⟨rfl, rfl⟩ rfl; intro hg) | (refine OK.tr ?_; refine TTdt ?_)); (try simp only [HC] at hg))
    | with_reducible exact rfl | exact ⟨rfl, rfl, rfl⟩
    | ((with_reducible refine RunsT.go ?_); first | refine RunsF.apf (h2 _ _ hn (by omega)) rfl ?_ | refine RunsF.apf (h3 _ _ _ (by omega) (by omega) hr1) rfl ?_ | refine RunsF.apf (h4 _ (by omega)) rfl ?_ | fail)
    | ((with_reducible refine RunsD.go ?_); first | refine RunsF.apd (h2 _ _ hn (by omega)) rfl ?_ | refine RunsF.apd (h3 _ _ _ (by omega) (by omega) hr1) rfl ?_ | refine RunsF.apd (h4 _ (by omega)) rfl ?_ | fail)
    | ((with_reducible refine Gd.go ?_); refine Gd.on (fun hg => ?_) (fun hg => ?_) <;> refine TGdt ?_ <;> (try simp only [HC] at hg))
    | ((with_reducible refine Fin.go ?_); first | (refine Fin.p ?_; first | exact FT | (try refine TTdt ?_; try simp only [LF])) | refine Fin.a0 ?_ | refine Fin.a ?_ | refine Fin.ni ?_ | refine Fin.v ?_ ?_ | refine Fin.r ?_ ?_ | exact Fin.th | (refine Fin.t ?_; try simp only [AV.sl.injEq]))
    | (refine And.go ?_; refine AndI ?_)
    | fail)
  all_goals (try clear ih)
  all_goals (try dsimp only)
  all_goals (repeat' apply And.intro)
  all_goals first | omega | (simp only [ZL]; omega) | skip
  all_goals (try clear hr hk hB)
  all_goals first | (show _ = bestL _ _ (l.getD i default); rw [hi2, bestL_drop (by omega), if_pos (by rw [ltp]; exact decide_eq_true hc)]; done) | (show (l.getD i default).length ≤ 1000; omega) | (rw [hi2, bestL_drop (by omega), if_neg (by rw [ltp, decide_eq_true_eq]; omega)]; done) | (rw [bestQ, if_pos hcc, hb0, hi2, List.drop_eq_nil_of_le (by omega)]; rfl) | (rw [bestQ, if_pos hcc]; done) | skip
end Go.G08
end
section
namespace Go.G09
open Go.Ab Siz Go.Lib01 Go.Lib03 Go.M01 Go.M02 Go.N02 Go.G01 Go.G02 Go.G03 Go.G04 Go.G05 Go.G06 Go.G07 Go.G08
set_option linter.unusedVariables false
set_option linter.unusedSimpArgs false
set_option maxRecDepth 2000
def lvQ (s : List UInt8) (L : Lvl) : List UInt8 × Bool := if (bestQ (genQ s) L.1 L.2).2 then (outQ (bestQ (genQ s) L.1 L.2).1, true) else ([], false)
theorem genQ_b (s : List UInt8) : (genQ s).length ≤ 244140625 := by
  unfold genQ; split
  · rename_i h; exact gen_b (by omega) (by omega)
  · simp
theorem genQ_c (s : List UInt8) : ∀ c ∈ genQ s, c.length ≤ 1000 := by
  unfold genQ; split
  · rename_i h; exact gen_c (by omega) (by omega)
  · simp
theorem oneQ_b (s : List UInt8) : (oneQ s).length ≤ 244140625 := by
  unfold oneQ; split
  · rename_i h; exact gen_b (by omega) (by omega)
  · simp
theorem oneQ_c (s : List UInt8) : ∀ c ∈ oneQ s, c.length ≤ 1000 := by
  unfold oneQ; split
  · rename_i h; exact gen_c (by omega) (by omega)
  · simp
theorem best_in {l : List (List Lnk)} {names : List (List UInt8)} {r : List Int} (h : (bestQ l names r).2 = true) : (bestQ l names r).1 ∈ l := by
  unfold bestQ at h ⊢
  split at h
  · rename_i hh
    rw [if_pos hh]
    rcases bestL_mem (lt := ltp names r) l (l.getD 0 default) with h1 | h1
    · simp only [h1]
      cases l with
      | nil => exact absurd rfl hh.2
      | cons a l => exact List.mem_cons_self ..
    · exact h1
  · cases h
theorem best_len {l : List (List Lnk)} {names : List (List UInt8)} {r : List Int} (h : ∀ c ∈ l, c.length ≤ 1000) : (bestQ l names r).1.length ≤ 1000 := by
  by_cases hb : (bestQ l names r).2 = true
  · exact h _ (best_in hb)
  · unfold bestQ at hb ⊢
    split
    · rename_i hh; exact absurd (by rw [if_pos hh]) hb
    · simp
def C_lv (P : Program) (k : Nat) : Prop := ∀ (s : List UInt8) (L : Lvl), s.length ≤ 4294967295 → ok mxs L → RunsF P k [.str s, .agg (Dat.row L)] (.tup [.str (lvQ s L).1, .bool (lvQ s L).2])
/-- impl.ApplyLevel -/
def i_ApplyLevel.x (c_i_Generate c_i_best c_i_OutputOf : Nat) : XCode :=
  (.seq
    (.reg [⟨(some 3), .boxF, [.t 1], none⟩,
      ⟨(some 4), .mv, [.k (.str [])], none⟩,
      ⟨(some 5), .mv, [.k (.bool false)], none⟩] [0, 3])
    (.seq
      (.drw [(⟨(some 9), .mv, [.t 0], none⟩, []),
        (⟨(some 10), .call, [.k (.fn c_i_Generate []), .t 9], none⟩, [0]),
        (⟨(some 11), (.fldA 0), [.t 3], none⟩, []),
        (⟨(some 12), (.ld none), [.t 11], none⟩, [2]),
        (⟨(some 13), (.fldA 1), [.t 3], none⟩, []),
        (⟨(some 14), (.ld none), [.t 13], none⟩, [4]),
        (⟨(some 15), .call, [.k (.fn c_i_best []), .t 10, .t 12, .t 14], none⟩, [1, 3, 5, 1]),
        (⟨(some 8), .mv, [.t 15], none⟩, [6]),
        (⟨(some 16), (.ext 0), [.t 8], none⟩, [7]),
        (⟨(some 17), (.ext 1), [.t 8], none⟩, [7]),
        (⟨(some 6), (.alloc [.nilsl]), [], none⟩, []),
        (⟨none, (.st (some 1)), [.t 6, .t 16], none⟩, [10, 8, 6, 0, 1, 2, 3, 4, 5, 6, 7, 8, 10]),
        (⟨(some 7), .mv, [.t 17], none⟩, [9, 11, 0, 1, 2, 3, 4, 5, 6, 7, 8, 9, 10, 11])] [6, 7] [0, 0, 0, 0, 0, 0, 0, 0, 0, 0, 2, 2, 0])
      (.seq
        (.seq
          (.reg [⟨(some 18), .mv, [.t 7], none⟩,
            ⟨(some 19), (.un .not), [.t 18], none⟩] [6, 19])
          (.cond (.t 19)
            (.seq
              (.reg [⟨(some 4), .mv, [.k (.str [])], none⟩,
                ⟨(some 5), .mv, [.k (.bool false)], none⟩] [4, 5])
              .ret)
            .skip))
        (.seq
          (.reg [⟨(some 20), (.ld (some 1)), [.t 6], none⟩,
            ⟨(some 21), .call, [.k (.fn c_i_OutputOf []), .t 20], none⟩,
            ⟨(some 4), .mv, [.t 21], none⟩,
            ⟨(some 5), .mv, [.k (.bool true)], none⟩] [4, 5])
          .ret))))
def i_ApplyLevel.F : Cfg := ⟨fun _ => 0, fun r => match r with | 0 => [0, 3] | 1 => [6, 7] | 2 => [6, 19] | 3 => [4, 5] | 4 => [4, 5] | 1000001 => [0, 0, 0, 0, 0, 0, 0, 0, 0, 0, 2, 2, 0] | _ => []⟩
def i_ApplyLevel.X (c_i_Generate c_i_best c_i_OutputOf : Nat) : FX := ⟨22, [.tmp 4, .tmp 5], i_ApplyLevel.F, i_ApplyLevel.x c_i_Generate c_i_best c_i_OutputOf⟩

theorem i_ApplyLevel.ok {P : Program} {k c_i_Generate c_i_best c_i_OutputOf : Nat} (hk : Has P k (i_ApplyLevel.X c_i_Generate c_i_best c_i_OutputOf)) (h1 : C_gen genQ P c_i_Generate) (h2 : C_best P c_i_best) (h3 : Cs outQ P c_i_OutputOf) : C_lv P k := by
  intro s L hs hL n H
  obtain ⟨⟨ha, -⟩, ⟨hb, -⟩⟩ := hL
  unfold mxs at ha hb
  have hlen := best_len (names := L.1) (r := L.2) (genQ_c s)
  refine S.ofX hk rfl fun hB fn hr => ?_
  unfold i_ApplyLevel.x
  repeat' (first
    | ((with_reducible refine S.go ?_); first | refine S.seq ?_ | refine S.skip ?_ | refine S.block ?_ | refine S.inBlock ?_ | refine S.exit rfl ?_ | refine S.regN ?_ | refine S.reg ?_ | refine S.drw hk.mo (by kernel_rfl) ?_ | (refine S.cond rfl (fun hc => ?_) (fun hc => ?_) <;> try simp only [HC] at hc) | refine S.retH hr rfl ?_ | refine S.finH hr rfl ?_ | (refine S.retK hr ?_; refine TRdt ?_) | fail)
    | ((first | with_reducible refine Ns.go ?_ | with_reducible refine XOs.go ?_ | with_reducible refine XDs.go ?_ | with_reducible refine OK.go ?_); (first | refine TTdt ?_ | (apply Ns.sc ⟨rfl, rfl⟩ rfl; intro hg) | (refine OK.tr ?_; refine TTdt ?_)); (try simp only [HC] at hg))
    | with_reducible exact rfl | exact ⟨rfl, rfl, rfl⟩
    | ((with_reducible refine RunsT.go ?_); first | refine RunsF.apf (h1 _ (by omega)) rfl ?_ | refine RunsF.apf (h2 _ _ _ (by have := genQ_b s; omega) (genQ_c s) (by omega) (by omega)) rfl ?_ | refine RunsF.apf (h3 _ (by omega)) rfl ?_ | fail)
    | ((with_reducible refine RunsD.go ?_); first | refine RunsF.apd (h1 _ (by omega)) rfl ?_ | refine RunsF.apd (h2 _ _ _ (by have := genQ_b s; omega) (genQ_c s) (by omega) (by omega)) rfl ?_ | refine RunsF.apd (h3 _ (by omega)) rfl ?_ | fail)
    | ((with_reducible refine Gd.go ?_); refine Gd.on (fun hg => ?_) (fun hg => ?_) <;> refine TGdt ?_ <;> (try simp only [HC] at hg))
    | ((with_reducible refine Fin.go ?_); first | (refine Fin.p ?_; first | exact FT | (try refine TTdt ?_; try simp only [LF])) | refine Fin.a0 ?_ | refine Fin.a ?_ | refine Fin.ni ?_ | refine Fin.v ?_ ?_ | refine Fin.r ?_ ?_ | exact Fin.th | (refine Fin.t ?_; try simp only [AV.sl.injEq]))
    | (refine And.go ?_; refine AndI ?_)
    | fail)
  all_goals (try clear hr hk hB)
  all_goals (rw [lvQ, hc]; exact ⟨rfl, rfl⟩)
theorem lv_no {s : List UInt8} {L : Lvl} (h : (isGram L.1 L.2 = false ∨ isForm s = false) ∨ 4 < (s.length : Int)) : lvQ s L = ([], false) := by
  have : (bestQ (genQ s) L.1 L.2).2 = false := by
    unfold bestQ
    rw [if_neg]
    rintro ⟨h1, h2⟩
    rcases h with (h | h) | h
    · rw [h] at h1; cases h1
    · exact h2 (by rw [genQ, if_neg (by rintro ⟨e, -⟩; rw [h] at e; cases e)])
    · exact h2 (by rw [genQ, if_neg (by rintro ⟨-, e⟩; omega)])
  rw [lvQ, this]; rfl
theorem lv_yes {s : List UInt8} {L : Lvl} {b : List Lnk} (h1 : isGram L.1 L.2 = true) (h2 : 0 < (genQ s).length) (h : bestL (ltp L.1 L.2) (genQ s) ((genQ s).getD 0 default) = b) : lvQ s L = (outQ b, true) := by
  have hh : isGram L.1 L.2 = true ∧ genQ s ≠ [] := ⟨h1, List.length_pos_iff.mp h2⟩
  rw [lvQ, bestQ, if_pos hh, ← h]; rfl
theorem best_one {lt : List Lnk → List Lnk → Bool} (hs : ∀ a, lt a a = false) {l : List (List Lnk)} (h : 0 < l.length) : bestL lt l (l.getD 0 default) = bestL lt (l.drop 1) (l.getD 0 default) := by
  cases l with
  | nil => cases h
  | cons a l => simp only [bestL, List.getD_cons_zero, hs, Bool.false_eq_true, if_false]; rfl
/-- spec.ApplyLevel -/
def s_ApplyLevel.x (c_s_IsLevel c_s_IsForm c_s_Generate c_s_ProfileOf c_s_CompareMarks c_s_OutputOf : Nat) : XCode :=
  (.seq
    (.reg [⟨(some 3), .boxF, [.t 1], none⟩,
      ⟨(some 4), .mv, [.k (.str [])], none⟩,
      ⟨(some 5), .mv, [.k (.bool false)], none⟩] [0, 3])
    (.seq
      (.seq
        (.reg (flatNs none (nl [.op (some 9) (.ld (some 2)) [.t 3], .op (some 10) .call [.k (.fn c_s_IsLevel []), .t 9], .op (some 11) (.un .not) [.t 10], .op (some 12) .mv [.t 11], .sc 12 false (nl [.op (some 13) .mv [.t 0], .op (some 14) .call [.k (.fn c_s_IsForm []), .t 13], .op (some 15) (.un .not) [.t 14]]) (.t 15) (some 16), .op (some 17) .mv [.t 16], .sc 17 false (nl [.op (some 18) .mv [.t 0], .op (some 19) .lenS [.t 18], .op (some 20) (.bin .gtr) [.t 19, .k (.int .i64 4)]]) (.t 20) (some 21)])) [0, 3, 21])
        (.cond (.t 21)
          (.seq
            (.reg [⟨(some 4), .mv, [.k (.str [])], none⟩,
              ⟨(some 5), .mv, [.k (.bool false)], none⟩] [4, 5])
            .ret)
          .skip))
      (.seq
        (.reg [⟨(some 22), .mv, [.t 0], none⟩,
          ⟨(some 23), .call, [.k (.fn c_s_Generate []), .t 22], none⟩,
          ⟨(some 6), .mv, [.t 23], none⟩] [3, 6])
        (.seq
          (.reg [⟨(some 24), .mv, [.t 6], none⟩,
            ⟨(some 25), (.idxA 1), [.t 24, .k (.int .i64 0)], none⟩,
            ⟨(some 26), (.ld (some 1)), [.t 25], none⟩,
            ⟨(some 7), (.alloc [.nilsl]), [], none⟩,
            ⟨none, (.st (some 1)), [.t 7, .t 26], none⟩] [3, 6, 7])
          (.seq
            (.seq
              (.reg [⟨(some 8), .mv, [.k (.int .i64 1)], none⟩] [3, 6, 7, 8])
              (.block 0
                (.loop
                  (.seq
                    (.seq
                      (.reg [⟨(some 27), .mv, [.t 8], none⟩,
                        ⟨(some 28), .mv, [.t 6], none⟩,
                        ⟨(some 29), .lenL, [.t 28], none⟩,
                        ⟨(some 30), (.bin .lss), [.t 27, .t 29], none⟩] [3, 6, 7, 8, 30])
                      (.cond (.t 30)
                        .skip
                        (.exit 0)))
                    (.seq
                      (.block 1
                        (.seq
                          (.drw [(⟨(some 33), (.fldA 0), [.t 3], none⟩, []),
                            (⟨(some 34), (.ld none), [.t 33], none⟩, [0]),
                            (⟨(some 35), .mv, [.t 6], none⟩, []),
                            (⟨(some 36), .mv, [.t 8], none⟩, []),
                            (⟨(some 37), (.idxA 1), [.t 35, .t 36], none⟩, [2, 3]),
                            (⟨(some 38), (.ld (some 1)), [.t 37], none⟩, [4]),
                            (⟨(some 39), .call, [.k (.fn c_s_ProfileOf []), .t 34, .t 38], none⟩, [1, 5]),
                            (⟨(some 40), (.fldA 0), [.t 3], none⟩, []),
                            (⟨(some 41), (.ld none), [.t 40], none⟩, [7]),
                            (⟨(some 42), (.ld (some 1)), [.t 7], none⟩, []),
                            (⟨(some 43), .call, [.k (.fn c_s_ProfileOf []), .t 41, .t 42], none⟩, [8, 9, 6]),
                            (⟨(some 44), (.fldA 1), [.t 3], none⟩, []),
                            (⟨(some 45), (.ld none), [.t 44], none⟩, [11]),
                            (⟨(some 46), .call, [.k (.fn c_s_CompareMarks []), .t 39, .t 43, .t 45], none⟩, [6, 10, 12, 10]),
                            (⟨(some 47), (.bin .lss), [.t 46, .k (.int .i64 0)], none⟩, [13])] [3, 6, 7, 8, 47] [0, 0, 0, 0, 0, 0, 0, 0, 0, 1, 0, 0, 0, 0, 0])
                          (.cond (.t 47)
                            (.reg [⟨(some 48), .mv, [.t 6], none⟩,
                              ⟨(some 49), .mv, [.t 8], none⟩,
                              ⟨(some 50), (.idxA 1), [.t 48, .t 49], none⟩,
                              ⟨(some 51), (.ld (some 1)), [.t 50], none⟩,
                              ⟨none, (.st (some 1)), [.t 7, .t 51], none⟩] [3, 6, 7, 8])
                            .skip)))
                      (.reg [⟨(some 31), .mv, [.t 8], none⟩,
                        ⟨(some 32), (.bin .add), [.t 31, .k (.int .i64 1)], none⟩,
                        ⟨(some 8), .mv, [.t 32], none⟩] [3, 6, 7, 8]))))))
            (.seq
              (.reg [⟨(some 52), (.ld (some 1)), [.t 7], none⟩,
                ⟨(some 53), .call, [.k (.fn c_s_OutputOf []), .t 52], none⟩,
                ⟨(some 4), .mv, [.t 53], none⟩,
                ⟨(some 5), .mv, [.k (.bool true)], none⟩] [4, 5])
              .ret))))))
def s_ApplyLevel.F : Cfg := ⟨fun _ => 0, fun r => match r with | 0 => [0, 3] | 1 => [0, 3, 21] | 2 => [4, 5] | 3 => [3, 6] | 4 => [3, 6, 7] | 5 => [3, 6, 7, 8] | 6 => [3, 6, 7, 8, 30] | 7 => [3, 6, 7, 8] | 8 => [3, 6, 7, 8, 47] | 9 => [3, 6, 7, 8] | 10 => [4, 5] | 1000008 => [0, 0, 0, 0, 0, 0, 0, 0, 0, 1, 0, 0, 0, 0, 0] | _ => []⟩
def s_ApplyLevel.X (c_s_IsLevel c_s_IsForm c_s_Generate c_s_ProfileOf c_s_CompareMarks c_s_OutputOf : Nat) : FX := ⟨54, [.tmp 4, .tmp 5], s_ApplyLevel.F, s_ApplyLevel.x c_s_IsLevel c_s_IsForm c_s_Generate c_s_ProfileOf c_s_CompareMarks c_s_OutputOf⟩

theorem s_ApplyLevel.ok {P : Program} {k c_s_IsLevel c_s_IsForm c_s_Generate c_s_ProfileOf c_s_CompareMarks c_s_OutputOf : Nat} (hk : Has P k (s_ApplyLevel.X c_s_IsLevel c_s_IsForm c_s_Generate c_s_ProfileOf c_s_CompareMarks c_s_OutputOf)) (h0 : C_IsLevel P c_s_IsLevel) (h1 : C_IsForm P c_s_IsForm) (h2 : C_gen genQ P c_s_Generate) (h3 : C_prof P c_s_ProfileOf) (h4 : C_cmp P c_s_CompareMarks) (h5 : Cs outQ P c_s_OutputOf) : C_lv P k := by
  intro s L hs hL n H
  have h0' := h0 L hL
  have gb := genQ_b s
  obtain ⟨⟨ha, -⟩, ⟨hb, -⟩⟩ := hL
  unfold mxs at ha hb
  have hlen := best_len (names := L.1) (r := L.2) (genQ_c s)
  have hq0 := lenD (genQ_c s) 0
  obtain ⟨Ln, Lr⟩ := L
  dsimp only at ha hb h0' hlen
  by_cases hform : isForm s = true
  · skip
    have gp : s.length > 4 ∨ 0 < (genQ s).length := by
      by_cases h1 : s.length > 4
      · exact .inl h1
      · right; rw [genQ, if_pos ⟨hform, by omega⟩]; exact gen_pos _ _
    generalize hb0 : (genQ s).getD 0 default = b0 at *
    refine S.ofX hk rfl fun hB fn hr => ?_
    unfold s_ApplyLevel.x
    repeat' (first
      | ((with_reducible refine S.go ?_); first | refine S.seq ?_ | refine S.skip ?_ | refine S.block ?_ | refine S.inBlock ?_ | refine S.exit rfl ?_ | refine S.regN ?_ | refine S.reg ?_ | refine S.drw hk.mo (by kernel_rfl) ?_ | (refine S.cond rfl (fun hc => ?_) (fun hc => ?_) <;> try simp only [HC] at hc) | refine S.retH hr rfl ?_ | refine S.finH hr rfl ?_ | (refine S.retK hr ?_; refine TRdt ?_) | fail)
      | ((first | with_reducible refine Ns.go ?_ | with_reducible refine XOs.go ?_ | with_reducible refine XDs.go ?_ | with_reducible refine OK.go ?_); (first | refine TTdt ?_ | (apply Ns.sc ⟨rfl, rfl⟩ rfl; intro hg) | (refine OK.tr ?_; refine TTdt ?_)); (try simp only [HC] at hg))
      | with_reducible exact rfl | exact ⟨rfl, rfl, rfl⟩
      | ((with_reducible refine RunsT.go ?_); first | refine RunsF.apf (h0') rfl ?_ | refine RunsF.apf (h1 _ (by omega)) rfl ?_ | refine RunsF.apf (h2 _ (by omega)) rfl ?_ | fail)
      | ((with_reducible refine RunsD.go ?_); first | refine RunsF.apd (h0') rfl ?_ | refine RunsF.apd (h1 _ (by omega)) rfl ?_ | refine RunsF.apd (h2 _ (by omega)) rfl ?_ | fail)
      | ((with_reducible refine Gd.go ?_); refine Gd.on (fun hg => ?_) (fun hg => ?_) <;> refine TGdt ?_ <;> (try simp only [HC] at hg))
      | ((with_reducible refine Fin.go ?_); first | (refine Fin.p ?_; first | exact FT | (try refine TTdt ?_; try simp only [LF])) | refine Fin.a0 ?_ | refine Fin.a ?_ | refine Fin.ni ?_ | refine Fin.v ?_ ?_ | refine Fin.r ?_ ?_ | exact Fin.th | (refine Fin.t ?_; try simp only [AV.sl.injEq]))
      | (refine And.go ?_; refine AndI ?_)
      | fail)
    · rw [lv_no hc]; exact ⟨rfl, rfl⟩
    have hcc := hc
    rw [hb0]
    have hq1 : b0.length ≤ 1000 := by omega
    have hbest : bestL (ltp Ln Lr) (genQ s) b0 = bestL (ltp Ln Lr) ((genQ s).drop 1) b0 := by rw [← hb0]; exact best_one (ltp_self Ln Lr) (by omega)
    have hl1 : 1 ≤ (genQ s).length := by omega
    have hfin : ∀ b, bestL (ltp Ln Lr) (genQ s) b0 = b → lvQ s (Ln, Lr) = (outQ b, true) := fun b hb => lv_yes hc.1.1 hl1 (by rw [hb0]; exact hb)
    have hgc := genQ_c s
    clear hlen hb0 h2 hq0 gp
    generalize genQ s = l at *
    refine S.loopV (σ := Nat × (List Lnk)) [3, 6, 7, 8] (fun s => [(8, .int .i64 (s.1 : Int))]) (fun s => bestL (ltp Ln Lr) l b0 = bestL (ltp Ln Lr) (l.drop s.1) s.2 ∧ s.2.length ≤ 1000 ∧ 1 ≤ s.1 ∧ s.1 ≤ l.length) (fun s => n + 1) (fun s => (n, .own [.sl (enc s.2)]) :: H) (fun s => l.length - s.1) (1, b0) (⟨hbest, hq1, by omega, hl1⟩) ?_
    rintro ⟨i, b⟩ ⟨hi1, hi2, hi3, hi4⟩ ih
    try dsimp only at hi1 hi2 hi3 hi4
    have hq2 := lenD hgc i
    have hp1 := prof_le Ln b
    have hp2 := prof_le Ln (l.getD i default)
    repeat' (first
      | ((with_reducible refine S.go ?_); first | refine S.seq ?_ | refine S.skip ?_ | refine S.block ?_ | refine S.inBlock ?_ | refine S.exit rfl ?_ | refine S.regN ?_ | refine S.reg ?_ | refine S.drw hk.mo (by kernel_rfl) ?_ | refine S.ag (ih ((i + 1, _)) ?_ ?_) | (refine S.cond rfl (fun hc => ?_) (fun hc => ?_) <;> try simp only [HC] at hc) | refine S.retH hr rfl ?_ | refine S.finH hr rfl ?_ | (refine S.retK hr ?_; refine TRdt ?_) | fail)
      | ((first | with_reducible refine Ns.go ?_ | with_reducible refine XOs.go ?_ | with_reducible refine XDs.go ?_ | with_reducible refine OK.go ?_); (first | refine TTdt ?_ | (apply Ns.sc ⟨rfl, rfl⟩ rfl; intro hg) | (refine OK.tr ?_; refine TTdt ?_)); (try simp only [HC] at hg))
      | with_reducible exact rfl | exact ⟨rfl, rfl, rfl⟩
      | ((with_reducible refine RunsT.go ?_); first | refine RunsF.apf (h3 _ _ ha (by omega)) rfl ?_ | refine RunsF.apf (h4 _ _ _ (by omega) (by omega) hb) rfl ?_ | refine RunsF.apf (h5 _ (by omega)) rfl ?_ | fail)
      | ((with_reducible refine RunsD.go ?_); first | refine RunsF.apd (h3 _ _ ha (by omega)) rfl ?_ | refine RunsF.apd (h4 _ _ _ (by omega) (by omega) hb) rfl ?_ | refine RunsF.apd (h5 _ (by omega)) rfl ?_ | fail)
      | ((with_reducible refine Gd.go ?_); refine Gd.on (fun hg => ?_) (fun hg => ?_) <;> refine TGdt ?_ <;> (try simp only [HC] at hg))
      | ((with_reducible refine Fin.go ?_); first | (refine Fin.p ?_; first | exact FT | (try refine TTdt ?_; try simp only [LF])) | refine Fin.a0 ?_ | refine Fin.a ?_ | refine Fin.ni ?_ | refine Fin.v ?_ ?_ | refine Fin.r ?_ ?_ | exact Fin.th | (refine Fin.t ?_; try simp only [AV.sl.injEq]))
      | (refine And.go ?_; refine AndI ?_)
      | fail)
    all_goals (try clear ih)
    all_goals (try dsimp only)
    all_goals (repeat' apply And.intro)
    all_goals first | omega | (simp only [ZL]; omega) | skip
    all_goals (try clear hr hk hB)
    all_goals first | (show _ = bestL _ _ (l.getD i default); rw [hi1, bestL_drop (by omega), if_pos (by rw [ltp]; exact decide_eq_true hc)]; done) | (show (l.getD i default).length ≤ 1000; omega) | (rw [hi1, bestL_drop (by omega), if_neg (by rw [ltp, decide_eq_true_eq]; omega)]; done) | (rw [hfin b (by rw [hi1, List.drop_eq_nil_of_le (by omega)]; rfl)]; done) | skip
  · skip
    refine S.ofX hk rfl fun hB fn hr => ?_
    unfold s_ApplyLevel.x
    repeat' (first
      | ((with_reducible refine S.go ?_); first | refine S.seq ?_ | refine S.skip ?_ | refine S.block ?_ | refine S.inBlock ?_ | refine S.exit rfl ?_ | refine S.regN ?_ | refine S.reg ?_ | refine S.drw hk.mo (by kernel_rfl) ?_ | (refine S.cond rfl (fun hc => ?_) (fun hc => ?_) <;> try simp only [HC] at hc) | refine S.retH hr rfl ?_ | refine S.finH hr rfl ?_ | (refine S.retK hr ?_; refine TRdt ?_) | fail)
      | ((first | with_reducible refine Ns.go ?_ | with_reducible refine XOs.go ?_ | with_reducible refine XDs.go ?_ | with_reducible refine OK.go ?_); (first | refine TTdt ?_ | (apply Ns.sc ⟨rfl, rfl⟩ rfl; intro hg) | (refine OK.tr ?_; refine TTdt ?_)); (try simp only [HC] at hg))
      | with_reducible exact rfl | exact ⟨rfl, rfl, rfl⟩
      | ((with_reducible refine RunsT.go ?_); first | refine RunsF.apf (h0') rfl ?_ | refine RunsF.apf (h1 _ (by omega)) rfl ?_ | refine RunsF.apf (h2 _ (by omega)) rfl ?_ | fail)
      | ((with_reducible refine RunsD.go ?_); first | refine RunsF.apd (h0') rfl ?_ | refine RunsF.apd (h1 _ (by omega)) rfl ?_ | refine RunsF.apd (h2 _ (by omega)) rfl ?_ | fail)
      | ((with_reducible refine Gd.go ?_); refine Gd.on (fun hg => ?_) (fun hg => ?_) <;> refine TGdt ?_ <;> (try simp only [HC] at hg))
      | ((with_reducible refine Fin.go ?_); first | (refine Fin.p ?_; first | exact FT | (try refine TTdt ?_; try simp only [LF])) | refine Fin.a0 ?_ | refine Fin.a ?_ | refine Fin.ni ?_ | refine Fin.v ?_ ?_ | refine Fin.r ?_ ?_ | exact Fin.th | (refine Fin.t ?_; try simp only [AV.sl.injEq]))
      | (refine And.go ?_; refine AndI ?_)
      | fail)
    · rw [lv_no hc]; exact ⟨rfl, rfl⟩
    · exact absurd hc.1.2 hform
end Go.G09
end
section
namespace Go.G10
open Go.Ab Siz Go.Lib01 Go.Lib03 Go.M01 Go.M02 Go.N02 Go.G01 Go.G02 Go.G03 Go.G04 Go.G05 Go.G06 Go.G07 Go.G08 Go.G09
set_option linter.unusedVariables false
set_option linter.unusedSimpArgs false
set_option maxRecDepth 2000
def stepQ (s : List UInt8) (c : List (List UInt8)) (r : List Int) : List Lnk × Bool := bestQ (oneQ s) c r
def C_step (P : Program) (k : Nat) : Prop := ∀ (s : List UInt8) (c : List (List UInt8)) (r : List Int), s.length ≤ 4294967295 → c.length ≤ 4294967295 → r.length ≤ 4294967295 →
  RunsF P k [.str s, .sl (enc c), .sl (enc r)] (.tup [.agg [.sl (enc (stepQ s c r).1)], .bool (stepQ s c r).2])
theorem step_no {s : List UInt8} {c : List (List UInt8)} {r : List Int} (h : (((oneQ s).length : Int) = 0 ∨ areCons c = false) ∨ isRnk r c.length = false) : stepQ s c r = ([], false) := by
  rw [stepQ, bestQ, if_neg]
  rintro ⟨h1, h2⟩
  simp only [isGram, Bool.and_eq_true] at h1
  rcases h with (h | h) | h
  · exact h2 (List.eq_nil_of_length_eq_zero (by omega))
  · rw [h] at h1; cases h1.1
  · rw [h] at h1; cases h1.2
theorem step_yes {s : List UInt8} {c : List (List UInt8)} {r : List Int} {b : List Lnk} (h1 : areCons c = true) (h3 : isRnk r c.length = true) (h2 : 0 < (oneQ s).length) (h : bestL (ltp c r) (oneQ s) ((oneQ s).getD 0 default) = b) : stepQ s c r = (b, true) := by
  have hh : isGram c r = true ∧ oneQ s ≠ [] := ⟨by rw [isGram, h1, h3]; rfl, List.length_pos_iff.mp h2⟩
  rw [stepQ, bestQ, if_pos hh, ← h]
theorem step_len (s : List UInt8) (c : List (List UInt8)) (r : List Int) : (stepQ s c r).1.length ≤ 1000 := best_len (oneQ_c s)
def derG (c : List (List UInt8)) (r : List Int) : Nat → List UInt8 → List (List Lnk) → List (List Lnk) × Bool
  | 0, _, _ => ([], false)
  | k + 1, s, out => if (stepQ s c r).2 = false then ([], false) else if edits (stepQ s c r).1 = 0 then (out, true) else derG c r k (outQ (stepQ s c r).1) (out ++ [(stepQ s c r).1])
def derQ (s : List UInt8) (c : List (List UInt8)) (r : List Int) : List (List Lnk) × Bool := derG c r 8 s []
def C_der (P : Program) (k : Nat) : Prop := ∀ (s : List UInt8) (c : List (List UInt8)) (r : List Int), s.length ≤ 4294967295 → c.length ≤ 4294967295 → r.length ≤ 4294967295 →
  RunsF P k [.str s, .sl (enc c), .sl (enc r)] (.tup [.sl (enc (derQ s c r).1), .bool (derQ s c r).2])
theorem der_no {c : List (List UInt8)} {r : List Int} {i : Nat} {w : List UInt8} {out : List (List Lnk)} (hi : (i : Int) < 8) (h : (stepQ w c r).2 = false) : derG c r (8 - i) w out = ([], false) := by
  rw [show 8 - i = (8 - (i + 1)) + 1 by omega, derG, if_pos h]
theorem der_end {c : List (List UInt8)} {r : List Int} {i : Nat} {w : List UInt8} {out : List (List Lnk)} (hi : (i : Int) < 8) (h : (stepQ w c r).2 = true) (he : ((edits (stepQ w c r).1 : Nat) : Int) = 0) : derG c r (8 - i) w out = (out, true) := by
  rw [show 8 - i = (8 - (i + 1)) + 1 by omega, derG, if_neg (by rw [h]; decide), if_pos (by omega)]
theorem der_go {c : List (List UInt8)} {r : List Int} {i : Nat} {w : List UInt8} {out : List (List Lnk)} (hi : (i : Int) < 8) (h : (stepQ w c r).2 = true) (he : ¬ ((edits (stepQ w c r).1 : Nat) : Int) = 0) : derG c r (8 - i) w out = derG c r (8 - (i + 1)) (outQ (stepQ w c r).1) (out ++ [(stepQ w c r).1]) := by
  rw [show 8 - i = (8 - (i + 1)) + 1 by omega, derG, if_neg (by rw [h]; decide), if_neg (by omega)]
theorem der_out {c : List (List UInt8)} {r : List Int} {i : Nat} {w : List UInt8} {out : List (List Lnk)} (hi : 8 ≤ (i : Int)) : derG c r (8 - i) w out = ([], false) := by
  rw [show 8 - i = 0 by omega, derG]
theorem TTg10 {A B : Prop} (hb : B) (h : B → A := by (intro hb; simp (disch := first | omega | decide | rfl) only [enc_appLL, row_ii, row_ss, row_ll, row_bb, eqLnk, stc5, stc6, stc7, stc8, stc9, tkl5, tkl6, tkl7, tkl8, tkl9, tkl10, Z, ZH, List.set_cons_zero, List.set_cons_succ, ↓reduceIte, Nat.reduceEqDiff, Nat.reduceBEq, Nat.reduceAdd, reduceCtorEq, UInt8.reduceOfNat]; exact hb)) : A := h hb
theorem TRg10 {A B : Prop} (hb : B) (h : B → A := by (intro hb; simp (disch := first | omega | decide | rfl) only [ZR, enc_appLL, row_ii, row_ss, row_ll, row_bb, eqLnk, stc5, stc6, stc7, stc8, stc9, tkl5, tkl6, tkl7, tkl8, tkl9, tkl10, Z, ZH, List.set_cons_zero, List.set_cons_succ, ↓reduceIte, Nat.reduceEqDiff, Nat.reduceBEq, Nat.reduceAdd, reduceCtorEq, UInt8.reduceOfNat]; exact hb)) : A := h hb
theorem TGg10 {A B : Prop} (hb : B) (h : B → A := by (intro hb; simp (disch := first | omega | decide | rfl) only [hg, enc_appLL, row_ii, row_ss, row_ll, row_bb, eqLnk, stc5, stc6, stc7, stc8, stc9, tkl5, tkl6, tkl7, tkl8, tkl9, tkl10, Z, ZH, List.set_cons_zero, List.set_cons_succ, ↓reduceIte, Nat.reduceEqDiff, Nat.reduceBEq, Nat.reduceAdd, reduceCtorEq, UInt8.reduceOfNat]; exact hb)) : A := h hb
theorem derG_len (c : List (List UInt8)) (r : List Int) : ∀ (k : Nat) (w : List UInt8) (out : List (List Lnk)) (b : Nat), out.length ≤ b → (∀ x ∈ out, x.length ≤ 1000) → (derG c r k w out).1.length ≤ b + k ∧ ∀ x ∈ (derG c r k w out).1, x.length ≤ 1000
  | 0, _, _, _, _, _ => ⟨by simp [derG], by simp [derG]⟩
  | k + 1, w, out, b, hl, ho => by
    unfold derG
    split
    · exact ⟨by simp, by simp⟩
    · split
      · exact ⟨by simp only []; omega, ho⟩
      · have := derG_len c r k (outQ (stepQ w c r).1) (out ++ [(stepQ w c r).1]) (b + 1) (by simp; omega) (by
          intro x hx
          rcases List.mem_append.mp hx with h | h
          · exact ho x h
          · rw [List.mem_singleton.mp h]; exact step_len w c r)
        exact ⟨by omega, this.2⟩
theorem der_len (s : List UInt8) (c : List (List UInt8)) (r : List Int) : (derQ s c r).1.length ≤ 8 ∧ ∀ x ∈ (derQ s c r).1, x.length ≤ 1000 := by
  have := derG_len c r 8 s [] 0 (by simp) (by simp)
  exact ⟨by unfold derQ; omega, this.2⟩
def serQ (s : List UInt8) (c : List (List UInt8)) (r : List Int) : List UInt8 × Bool := if (derQ s c r).2 then (if (derQ s c r).1 = [] then s else outQ ((derQ s c r).1.getD ((derQ s c r).1.length - 1) default), true) else ([], false)
theorem ser_no {s : List UInt8} {c : List (List UInt8)} {r : List Int} (h : (derQ s c r).2 = false) : serQ s c r = ([], false) := by rw [serQ, h]; rfl
theorem ser_nil {s : List UInt8} {c : List (List UInt8)} {r : List Int} (h : (derQ s c r).2 = true) (hn : (((derQ s c r).1.length : Nat) : Int) ≤ 0) : serQ s c r = (s, true) := by
  rw [serQ, h, if_pos (List.eq_nil_of_length_eq_zero (by omega))]; rfl
theorem ser_yes {s : List UInt8} {c : List (List UInt8)} {r : List Int} (h : (derQ s c r).2 = true) (hn : 0 < (((derQ s c r).1.length : Nat) : Int)) : serQ s c r = (outQ ((derQ s c r).1.getD ((derQ s c r).1.length - 1) default), true) := by
  rw [serQ, if_pos h, if_neg (by intro e; rw [e] at hn; exact absurd hn (by simp))]
def C_ser (P : Program) (k : Nat) : Prop := ∀ (s : List UInt8) (c : List (List UInt8)) (r : List Int), s.length ≤ 4294967295 → c.length ≤ 4294967295 → r.length ≤ 4294967295 →
  RunsF P k [.str s, .sl (enc c), .sl (enc r)] (.tup [.str (serQ s c r).1, .bool (serQ s c r).2])
end Go.G10
end
section
namespace Go.G11
open Go.Ab Siz Go.Lib01 Go.Lib03 Go.M01 Go.M02 Go.N02 Go.G01 Go.G02 Go.G03 Go.G04 Go.G05 Go.G06 Go.G07 Go.G08 Go.G09 Go.G10
set_option linter.unusedVariables false
set_option linter.unusedSimpArgs false
set_option maxRecDepth 2000
theorem lv_len (s : List UInt8) (L : Lvl) : (lvQ s L).1.length ≤ 1000 := by
  unfold lvQ
  split
  · have h1 := best_len (names := L.1) (r := L.2) (genQ_c s)
    have h2 := outQ_len (bestQ (genQ s) L.1 L.2).1
    simp only []; omega
  · simp
def lvG : List Lvl → List UInt8 → List (List UInt8) → List (List UInt8) × Bool
  | [], _, out => (out, true)
  | L :: ls, s, out => if (lvQ s L).2 then lvG ls (lvQ s L).1 (out ++ [(lvQ s L).1]) else ([], false)
def lvsQ (s : List UInt8) (ls : List Lvl) : List (List UInt8) × Bool := if ls.length ≤ 3 ∧ isForm s = true then lvG ls s [s] else ([], false)
theorem lvs_no {s : List UInt8} {ls : List Lvl} (h : 3 < (ls.length : Int) ∨ isForm s = false) : lvsQ s ls = ([], false) := by
  rw [lvsQ, if_neg]; rintro ⟨h1, h2⟩; rcases h with h | h; omega; (rw [h] at h2; cases h2)
theorem lvs_yes {s : List UInt8} {ls : List Lvl} (h : (ls.length : Int) ≤ 3 ∧ isForm s = true) : lvsQ s ls = lvG ls s [s] := by
  rw [lvsQ, if_pos ⟨by omega, h.2⟩]
theorem lvG_no {s : List UInt8} {ls : List Lvl} {out : List (List UInt8)} {i : Nat} (hi : (i : Int) < ls.length) (h : (lvQ s (ls.getD i default)).2 = false) : lvG (ls.drop i) s out = ([], false) := by
  rw [List.drop_eq_getElem_cons (by omega), lvG, ← getD_at (by omega), h]; rfl
theorem lvG_go {s : List UInt8} {ls : List Lvl} {out : List (List UInt8)} {i : Nat} (hi : (i : Int) < ls.length) (h : (lvQ s (ls.getD i default)).2 = true) : lvG (ls.drop i) s out = lvG (ls.drop (i + 1)) (lvQ s (ls.getD i default)).1 (out ++ [(lvQ s (ls.getD i default)).1]) := by
  rw [List.drop_eq_getElem_cons (by omega), lvG, ← getD_at (by omega), h]; rfl
theorem lvG_end {s : List UInt8} {ls : List Lvl} {out : List (List UInt8)} {i : Nat} (hi : (ls.length : Int) ≤ i) : lvG (ls.drop i) s out = (out, true) := by
  rw [List.drop_eq_nil_of_le (by omega), lvG]
theorem lvG_len : ∀ (ls : List Lvl) (s : List UInt8) (out : List (List UInt8)), (lvG ls s out).2 = false ∨ (lvG ls s out).1.length = out.length + ls.length
  | [], s, out => .inr (by simp [lvG])
  | L :: ls, s, out => by
    unfold lvG
    split
    · rcases lvG_len ls (lvQ s L).1 (out ++ [(lvQ s L).1]) with h | h
      · exact .inl h
      · exact .inr (by rw [h]; simp only [List.length_append, List.length_cons, List.length_nil]; omega)
    · exact .inl rfl
theorem lvs_len (s : List UInt8) (ls : List Lvl) : (lvsQ s ls).2 = false ∨ (lvsQ s ls).1.length = ls.length + 1 := by
  unfold lvsQ
  split
  · rcases lvG_len ls s [s] with h | h
    · exact .inl h
    · exact .inr (by rw [h]; simp; omega)
  · exact .inl rfl
def C_lvs (P : Program) (k : Nat) : Prop := ∀ (s : List UInt8) (ls : List Lvl), s.length ≤ 4294967295 → ok mxs ls → RunsF P k [.str s, .sl (enc ls)] (.tup [.sl (enc (lvsQ s ls).1), .bool (lvsQ s ls).2])
theorem last_app {α : Type} [Inhabited α] {out : List α} {i : Nat} (h : out.length = i + 1) (x : α) : (out ++ [x]).getD (i + 1) default = x := by
  rw [List.getD_eq_getElem?_getD, List.getElem?_append_right (by omega), show i + 1 - out.length = 0 by omega]; rfl
/-- impl.ApplyLevels -/
def i_ApplyLevels.x (c_i_IsForm c_i_ApplyLevel : Nat) : XCode :=
  (.seq
    (.reg [⟨(some 4), .mv, [.k (.nilsl)], none⟩,
      ⟨(some 5), .mv, [.k (.bool false)], none⟩] [0, 1])
    (.seq
      (.seq
        (.reg (flatNs none (nl [.op (some 11) .mv [.t 1], .op (some 12) .lenL [.t 11], .op (some 13) (.bin .gtr) [.t 12, .k (.int .i64 3)], .op (some 14) .mv [.t 13], .sc 14 false (nl [.op (some 15) .mv [.t 0], .op (some 16) .call [.k (.fn c_i_IsForm []), .t 15], .op (some 17) (.un .not) [.t 16]]) (.t 17) (some 18)])) [0, 1, 18])
        (.cond (.t 18)
          (.seq
            (.reg [⟨(some 4), .mv, [.k (.nilsl)], none⟩,
              ⟨(some 5), .mv, [.k (.bool false)], none⟩] [4, 5])
            .ret)
          .skip))
      (.seq
        (.reg [⟨(some 19), .mv, [.t 0], none⟩,
          ⟨(some 20), (.bsl 1 1), [.t 19], none⟩,
          ⟨(some 6), .mv, [.t 20], none⟩] [0, 1, 6])
        (.seq
          (.seq
            (.reg [⟨(some 21), .mv, [.t 1], none⟩,
              ⟨(some 22), .lenL, [.t 21], none⟩,
              ⟨(some 23), .mv, [.k (.int .i64 0)], none⟩] [0, 6, 21, 22, 23])
            (.block 0
              (.loop
                (.seq
                  (.reg [⟨(some 24), (.bin .lss), [.t 23, .t 22], none⟩] [0, 6, 21, 22, 23, 24])
                  (.seq
                    (.cond (.t 24)
                      .skip
                      (.exit 0))
                    (.seq
                      (.block 1
                        (.seq
                          (.reg [⟨(some 25), (.idxA 2), [.t 21, .t 23], none⟩,
                            ⟨(some 26), (.ld (some 2)), [.t 25], none⟩,
                            ⟨(some 8), (.alloc [.nilsl, .nilsl]), [], none⟩,
                            ⟨none, (.st (some 2)), [.t 8, .t 26], none⟩] [0, 6, 8, 21, 22, 23])
                          (.seq
                            (.reg [⟨(some 28), .mv, [.t 0], none⟩,
                              ⟨(some 29), (.ld (some 2)), [.t 8], none⟩,
                              ⟨(some 30), .call, [.k (.fn c_i_ApplyLevel []), .t 28, .t 29], none⟩,
                              ⟨(some 27), .mv, [.t 30], none⟩,
                              ⟨(some 31), (.ext 0), [.t 27], none⟩,
                              ⟨(some 32), (.ext 1), [.t 27], none⟩,
                              ⟨(some 9), .mv, [.t 31], none⟩,
                              ⟨(some 10), .mv, [.t 32], none⟩] [6, 9, 10, 21, 22, 23])
                            (.seq
                              (.seq
                                (.reg [⟨(some 33), .mv, [.t 10], none⟩,
                                  ⟨(some 34), (.un .not), [.t 33], none⟩] [6, 9, 21, 22, 23, 34])
                                (.cond (.t 34)
                                  (.seq
                                    (.reg [⟨(some 4), .mv, [.k (.nilsl)], none⟩,
                                      ⟨(some 5), .mv, [.k (.bool false)], none⟩] [4, 5])
                                    .ret)
                                  .skip))
                              (.seq
                                (.reg [⟨(some 35), .mv, [.t 9], none⟩,
                                  ⟨(some 0), .mv, [.t 35], none⟩] [0, 6, 21, 22, 23])
                                (.reg [⟨(some 36), .mv, [.t 6], none⟩,
                                  ⟨(some 37), .mv, [.t 0], none⟩,
                                  ⟨(some 38), (.bsl 0 1), [.t 37], none⟩,
                                  ⟨(some 39), (.app 1 16), [.t 36, .t 38], none⟩,
                                  ⟨(some 6), .mv, [.t 39], none⟩] [0, 6, 21, 22, 23]))))))
                      (.reg [⟨(some 40), (.bin .add), [.t 23, .k (.int .i64 1)], none⟩,
                        ⟨(some 23), .mv, [.t 40], none⟩] [0, 6, 21, 22, 23])))))))
          (.seq
            (.reg [⟨(some 41), .mv, [.t 6], none⟩,
              ⟨(some 4), .mv, [.t 41], none⟩,
              ⟨(some 5), .mv, [.k (.bool true)], none⟩] [4, 5])
            .ret)))))
def i_ApplyLevels.F : Cfg := ⟨fun d => if d = 20 then 1 else 0, fun r => match r with | 0 => [0, 1] | 1 => [0, 1, 18] | 2 => [4, 5] | 3 => [0, 1, 6] | 4 => [0, 6, 21, 22, 23] | 5 => [0, 6, 21, 22, 23, 24] | 6 => [0, 6, 8, 21, 22, 23] | 7 => [6, 9, 10, 21, 22, 23] | 8 => [6, 9, 21, 22, 23, 34] | 9 => [4, 5] | 10 => [0, 6, 21, 22, 23] | 11 => [0, 6, 21, 22, 23] | 12 => [0, 6, 21, 22, 23] | 13 => [4, 5] | _ => []⟩
def i_ApplyLevels.X (c_i_IsForm c_i_ApplyLevel : Nat) : FX := ⟨42, [.tmp 4, .tmp 5], i_ApplyLevels.F, i_ApplyLevels.x c_i_IsForm c_i_ApplyLevel⟩

theorem i_ApplyLevels.ok {P : Program} {k c_i_IsForm c_i_ApplyLevel : Nat} (hk : Has P k (i_ApplyLevels.X c_i_IsForm c_i_ApplyLevel)) (h0 : C_IsForm P c_i_IsForm) (h1 : C_lv P c_i_ApplyLevel) : C_lvs P k := by
  intro s0 ls hs hL n H
  obtain ⟨hl, hx⟩ := hL
  unfold mxs at hl
  have hok := fun i (hi : i < ls.length) => ok_at hx hi
  refine S.ofX hk rfl fun hB fn hr => ?_
  unfold i_ApplyLevels.x
  repeat' (first
    | ((with_reducible refine S.go ?_); first | refine S.seq ?_ | refine S.skip ?_ | refine S.block ?_ | refine S.inBlock ?_ | refine S.exit rfl ?_ | refine S.regN ?_ | refine S.reg ?_ | refine S.drw hk.mo (by kernel_rfl) ?_ | (refine S.cond rfl (fun hc => ?_) (fun hc => ?_) <;> try simp only [HC] at hc) | refine S.retH hr rfl ?_ | refine S.finH hr rfl ?_ | (refine S.retK hr ?_; refine TRdt ?_) | fail)
    | ((first | with_reducible refine Ns.go ?_ | with_reducible refine XOs.go ?_ | with_reducible refine XDs.go ?_ | with_reducible refine OK.go ?_); (first | refine TTdt ?_ | (apply Ns.sc ⟨rfl, rfl⟩ rfl; intro hg) | (refine OK.tr ?_; refine TTdt ?_)); (try simp only [HC] at hg))
    | with_reducible exact rfl | exact ⟨rfl, rfl, rfl⟩
    | ((with_reducible refine RunsT.go ?_); first | refine RunsF.apf (h0 _ (by omega)) rfl ?_ | fail)
    | ((with_reducible refine RunsD.go ?_); first | refine RunsF.apd (h0 _ (by omega)) rfl ?_ | fail)
    | ((with_reducible refine Gd.go ?_); refine Gd.on (fun hg => ?_) (fun hg => ?_) <;> refine TGdt ?_ <;> (try simp only [HC] at hg))
    | ((with_reducible refine Fin.go ?_); first | (refine Fin.p ?_; first | exact FT | (try refine TTdt ?_; try simp only [LF])) | refine Fin.a0 ?_ | refine Fin.a ?_ | refine Fin.ni ?_ | refine Fin.v ?_ ?_ | refine Fin.r ?_ ?_ | exact Fin.th | (refine Fin.t ?_; try simp only [AV.sl.injEq]))
    | (refine And.go ?_; refine AndI ?_)
    | fail)
  · rw [lvs_no hc]; exact ⟨rfl, rfl⟩
  have hcc := hc
  refine S.loopV (σ := Nat × (List UInt8) × (List (List UInt8))) [0, 6, 21, 22, 23] (fun s => [(0, .str s.2.1), (6, .acc n 1 (enc s.2.2)), (23, .int .i64 (s.1 : Int))]) (fun s => s.1 ≤ ls.length ∧ lvsQ s0 ls = lvG (ls.drop s.1) s.2.1 s.2.2 ∧ s.2.2.length = s.1 + 1 ∧ s.2.1.length ≤ 4294967295) (fun s => n + 1 + s.1) (fun s => (n, .tok 1 s.2.2.length) :: H) (fun s => ls.length - s.1) (0, s0, [s0]) (⟨by omega, lvs_yes hcc, rfl, hs⟩) ?_
  rintro ⟨i, w, out⟩ ⟨hi1, hi2, hi3, hi4⟩ ih
  try dsimp only at hi1 hi2 hi3 hi4
  have hll := lv_len w (ls.getD i default)
  repeat' (first
    | ((with_reducible refine S.go ?_); first | refine S.seq ?_ | refine S.skip ?_ | refine S.block ?_ | refine S.inBlock ?_ | refine S.exit rfl ?_ | refine S.regN ?_ | refine S.reg ?_ | refine S.drw hk.mo (by kernel_rfl) ?_ | refine S.ag (ih ((i + 1, _, _)) ?_ ?_) | (refine S.cond rfl (fun hc => ?_) (fun hc => ?_) <;> try simp only [HC] at hc) | refine S.retH hr rfl ?_ | refine S.finH hr rfl ?_ | (refine S.retK hr ?_; refine TRdt ?_) | fail)
    | ((first | with_reducible refine Ns.go ?_ | with_reducible refine XOs.go ?_ | with_reducible refine XDs.go ?_ | with_reducible refine OK.go ?_); (first | refine TTdt ?_ | (apply Ns.sc ⟨rfl, rfl⟩ rfl; intro hg) | (refine OK.tr ?_; refine TTdt ?_)); (try simp only [HC] at hg))
    | with_reducible exact rfl | exact ⟨rfl, rfl, rfl⟩
    | ((with_reducible refine RunsT.go ?_); first | refine RunsF.apf (h1 _ _ hi4 (hok i (by omega))) rfl ?_ | fail)
    | ((with_reducible refine RunsD.go ?_); first | refine RunsF.apd (h1 _ _ hi4 (hok i (by omega))) rfl ?_ | fail)
    | ((with_reducible refine Gd.go ?_); refine Gd.on (fun hg => ?_) (fun hg => ?_) <;> refine TGdt ?_ <;> (try simp only [HC] at hg))
    | ((with_reducible refine Fin.go ?_); first | (refine Fin.p ?_; first | exact FT | (try refine TTdt ?_; try simp only [LF])) | refine Fin.a0 ?_ | refine Fin.a ?_ | refine Fin.ni ?_ | refine Fin.v ?_ ?_ | refine Fin.r ?_ ?_ | exact Fin.th | (refine Fin.t ?_; try simp only [AV.sl.injEq]))
    | (refine And.go ?_; refine AndI ?_)
    | fail)
  all_goals (try clear ih)
  all_goals (try dsimp only)
  all_goals (repeat' apply And.intro)
  all_goals first | omega | (simp only [ZL]; omega) | skip
  all_goals (try clear hr hk hB)
  all_goals first | (rw [hi2, lvG_no ‹_› hc]; done) | (rw [hi2, lvG_no ‹_› hc]; rfl) | (rw [hi2, lvG_end ‹_›]; done) | (rw [hi2, lvG_end ‹_›]; rfl) | (rw [hi2, lvG_go ‹_› hc]; done) | (show (lvQ _ _).1.length ≤ _; omega) | (rw [hlast, hi2, lvG_go ‹_› hc]; done) | (rw [hlast]; show (lvQ _ _).1.length ≤ _; omega)
/-- spec.ApplyLevels -/
def s_ApplyLevels.x (c_s_IsForm c_s_ApplyLevel : Nat) : XCode :=
  (.seq
    (.reg [⟨(some 4), .mv, [.k (.nilsl)], none⟩,
      ⟨(some 5), .mv, [.k (.bool false)], none⟩] [0, 1])
    (.seq
      (.reg [⟨(some 10), .mv, [.t 0], none⟩,
        ⟨(some 11), (.bsl 1 1), [.t 10], none⟩,
        ⟨(some 6), .mv, [.t 11], none⟩] [0, 1, 6])
      (.seq
        (.seq
          (.reg (flatNs none (nl [.op (some 12) .mv [.t 1], .op (some 13) .lenL [.t 12], .op (some 14) (.bin .gtr) [.t 13, .k (.int .i64 3)], .op (some 15) .mv [.t 14], .sc 15 false (nl [.op (some 16) .mv [.t 0], .op (some 17) .call [.k (.fn c_s_IsForm []), .t 16], .op (some 18) (.un .not) [.t 17]]) (.t 18) (some 19)])) [1, 6, 19])
          (.cond (.t 19)
            (.seq
              (.reg [⟨(some 20), (.bsl 1 1), [], none⟩,
                ⟨(some 4), .mv, [.t 20], none⟩,
                ⟨(some 5), .mv, [.k (.bool false)], none⟩] [4, 5])
              .ret)
            .skip))
        (.seq
          (.seq
            (.reg [⟨(some 7), .mv, [.k (.int .i64 0)], none⟩] [1, 6, 7])
            (.block 0
              (.loop
                (.seq
                  (.seq
                    (.reg [⟨(some 21), .mv, [.t 7], none⟩,
                      ⟨(some 22), .mv, [.t 1], none⟩,
                      ⟨(some 23), .lenL, [.t 22], none⟩,
                      ⟨(some 24), (.bin .lss), [.t 21, .t 23], none⟩] [1, 6, 7, 24])
                    (.cond (.t 24)
                      .skip
                      (.exit 0)))
                  (.seq
                    (.block 1
                      (.seq
                        (.drw [(⟨(some 28), .mv, [.t 6], none⟩, []),
                          (⟨(some 29), .mv, [.t 7], none⟩, []),
                          (⟨(some 30), (.idxA 1), [.t 28, .t 29], none⟩, [0, 1]),
                          (⟨(some 31), (.ld none), [.t 30], none⟩, [2]),
                          (⟨(some 32), .mv, [.t 1], none⟩, []),
                          (⟨(some 33), .mv, [.t 7], none⟩, []),
                          (⟨(some 34), (.idxA 2), [.t 32, .t 33], none⟩, [4, 5]),
                          (⟨(some 35), (.ld (some 2)), [.t 34], none⟩, [6]),
                          (⟨(some 36), .call, [.k (.fn c_s_ApplyLevel []), .t 31, .t 35], none⟩, [3, 7]),
                          (⟨(some 27), .mv, [.t 36], none⟩, [8]),
                          (⟨(some 37), (.ext 0), [.t 27], none⟩, [9]),
                          (⟨(some 38), (.ext 1), [.t 27], none⟩, [9]),
                          (⟨(some 8), .mv, [.t 37], none⟩, [10, 8, 0, 1, 2, 3, 4, 5, 6, 7, 8, 9, 10]),
                          (⟨(some 9), .mv, [.t 38], none⟩, [11, 12, 0, 1, 2, 3, 4, 5, 6, 7, 8, 9, 10, 11, 12])] [1, 6, 7, 8, 9] [0, 0, 0, 0, 0, 0, 0, 0, 0, 0, 0, 0, 0, 0])
                        (.seq
                          (.seq
                            (.reg [⟨(some 39), .mv, [.t 9], none⟩,
                              ⟨(some 40), (.un .not), [.t 39], none⟩] [1, 6, 7, 8, 40])
                            (.cond (.t 40)
                              (.seq
                                (.reg [⟨(some 41), (.bsl 1 1), [], none⟩,
                                  ⟨(some 4), .mv, [.t 41], none⟩,
                                  ⟨(some 5), .mv, [.k (.bool false)], none⟩] [4, 5])
                                .ret)
                              .skip))
                          (.reg [⟨(some 42), .mv, [.t 6], none⟩,
                            ⟨(some 43), .mv, [.t 8], none⟩,
                            ⟨(some 44), (.bsl 0 1), [.t 43], none⟩,
                            ⟨(some 45), (.app 1 16), [.t 42, .t 44], none⟩,
                            ⟨(some 6), .mv, [.t 45], none⟩] [1, 6, 7]))))
                    (.reg [⟨(some 25), .mv, [.t 7], none⟩,
                      ⟨(some 26), (.bin .add), [.t 25, .k (.int .i64 1)], none⟩,
                      ⟨(some 7), .mv, [.t 26], none⟩] [1, 6, 7]))))))
          (.seq
            (.reg [⟨(some 46), .mv, [.t 6], none⟩,
              ⟨(some 4), .mv, [.t 46], none⟩,
              ⟨(some 5), .mv, [.k (.bool true)], none⟩] [4, 5])
            .ret)))))
def s_ApplyLevels.F : Cfg := ⟨fun d => if d = 11 then 1 else if d = 20 then 1 else if d = 41 then 1 else 0, fun r => match r with | 0 => [0, 1] | 1 => [0, 1, 6] | 2 => [1, 6, 19] | 3 => [4, 5] | 4 => [1, 6, 7] | 5 => [1, 6, 7, 24] | 6 => [1, 6, 7] | 7 => [1, 6, 7, 8, 9] | 8 => [1, 6, 7, 8, 40] | 9 => [4, 5] | 10 => [1, 6, 7] | 11 => [4, 5] | 1000007 => [0, 0, 0, 0, 0, 0, 0, 0, 0, 0, 0, 0, 0, 0] | _ => []⟩
def s_ApplyLevels.X (c_s_IsForm c_s_ApplyLevel : Nat) : FX := ⟨47, [.tmp 4, .tmp 5], s_ApplyLevels.F, s_ApplyLevels.x c_s_IsForm c_s_ApplyLevel⟩

theorem s_ApplyLevels.ok {P : Program} {k c_s_IsForm c_s_ApplyLevel : Nat} (hk : Has P k (s_ApplyLevels.X c_s_IsForm c_s_ApplyLevel)) (h0 : C_IsForm P c_s_IsForm) (h1 : C_lv P c_s_ApplyLevel) : C_lvs P k := by
  intro s0 ls hs hL n H
  obtain ⟨hl, hx⟩ := hL
  unfold mxs at hl
  have hok := fun i (hi : i < ls.length) => ok_at hx hi
  refine S.ofX hk rfl fun hB fn hr => ?_
  unfold s_ApplyLevels.x
  repeat' (first
    | ((with_reducible refine S.go ?_); first | refine S.seq ?_ | refine S.skip ?_ | refine S.block ?_ | refine S.inBlock ?_ | refine S.exit rfl ?_ | refine S.regN ?_ | refine S.reg ?_ | refine S.drw hk.mo (by kernel_rfl) ?_ | (refine S.cond rfl (fun hc => ?_) (fun hc => ?_) <;> try simp only [HC] at hc) | refine S.retH hr rfl ?_ | refine S.finH hr rfl ?_ | (refine S.retK hr ?_; refine TRdt ?_) | fail)
    | ((first | with_reducible refine Ns.go ?_ | with_reducible refine XOs.go ?_ | with_reducible refine XDs.go ?_ | with_reducible refine OK.go ?_); (first | refine TTdt ?_ | (apply Ns.sc ⟨rfl, rfl⟩ rfl; intro hg) | (refine OK.tr ?_; refine TTdt ?_)); (try simp only [HC] at hg))
    | with_reducible exact rfl | exact ⟨rfl, rfl, rfl⟩
    | ((with_reducible refine RunsT.go ?_); first | refine RunsF.apf (h0 _ (by omega)) rfl ?_ | fail)
    | ((with_reducible refine RunsD.go ?_); first | refine RunsF.apd (h0 _ (by omega)) rfl ?_ | fail)
    | ((with_reducible refine Gd.go ?_); refine Gd.on (fun hg => ?_) (fun hg => ?_) <;> refine TGdt ?_ <;> (try simp only [HC] at hg))
    | ((with_reducible refine Fin.go ?_); first | (refine Fin.p ?_; first | exact FT | (try refine TTdt ?_; try simp only [LF])) | refine Fin.a0 ?_ | refine Fin.a ?_ | refine Fin.ni ?_ | refine Fin.v ?_ ?_ | refine Fin.r ?_ ?_ | exact Fin.th | (refine Fin.t ?_; try simp only [AV.sl.injEq]))
    | (refine And.go ?_; refine AndI ?_)
    | fail)
  · rw [lvs_no hc]; exact ⟨rfl, rfl⟩
  have hcc := hc
  refine S.loopV (σ := Nat × (List (List UInt8))) [1, 6, 7] (fun s => [(6, .acc n 1 (enc s.2)), (7, .int .i64 (s.1 : Int))]) (fun s => s.1 ≤ ls.length ∧ lvsQ s0 ls = lvG (ls.drop s.1) (s.2.getD s.1 default) s.2 ∧ s.2.length = s.1 + 1 ∧ (s.2.getD s.1 default).length ≤ 4294967295) (fun s => n + 1) (fun s => (n, .tok 1 s.2.length) :: H) (fun s => ls.length - s.1) (0, [s0]) (⟨by omega, lvs_yes hcc, rfl, hs⟩) ?_
  rintro ⟨i, out⟩ ⟨hi1, hi2, hi3, hi4⟩ ih
  try dsimp only at hi1 hi2 hi3 hi4
  have hll := lv_len (out.getD i default) (ls.getD i default)
  have hlast := last_app hi3 (lvQ (out.getD i default) (ls.getD i default)).1
  repeat' (first
    | ((with_reducible refine S.go ?_); first | refine S.seq ?_ | refine S.skip ?_ | refine S.block ?_ | refine S.inBlock ?_ | refine S.exit rfl ?_ | refine S.regN ?_ | refine S.reg ?_ | refine S.drw hk.mo (by kernel_rfl) ?_ | refine S.ag (ih ((i + 1, _)) ?_ ?_) | (refine S.cond rfl (fun hc => ?_) (fun hc => ?_) <;> try simp only [HC] at hc) | refine S.retH hr rfl ?_ | refine S.finH hr rfl ?_ | (refine S.retK hr ?_; refine TRdt ?_) | fail)
    | ((first | with_reducible refine Ns.go ?_ | with_reducible refine XOs.go ?_ | with_reducible refine XDs.go ?_ | with_reducible refine OK.go ?_); (first | refine TTdt ?_ | (apply Ns.sc ⟨rfl, rfl⟩ rfl; intro hg) | (refine OK.tr ?_; refine TTdt ?_)); (try simp only [HC] at hg))
    | with_reducible exact rfl | exact ⟨rfl, rfl, rfl⟩
    | ((with_reducible refine RunsT.go ?_); first | refine RunsF.apf (h1 _ _ hi4 (hok i (by omega))) rfl ?_ | fail)
    | ((with_reducible refine RunsD.go ?_); first | refine RunsF.apd (h1 _ _ hi4 (hok i (by omega))) rfl ?_ | fail)
    | ((with_reducible refine Gd.go ?_); refine Gd.on (fun hg => ?_) (fun hg => ?_) <;> refine TGdt ?_ <;> (try simp only [HC] at hg))
    | ((with_reducible refine Fin.go ?_); first | (refine Fin.p ?_; first | exact FT | (try refine TTdt ?_; try simp only [LF])) | refine Fin.a0 ?_ | refine Fin.a ?_ | refine Fin.ni ?_ | refine Fin.v ?_ ?_ | refine Fin.r ?_ ?_ | exact Fin.th | (refine Fin.t ?_; try simp only [AV.sl.injEq]))
    | (refine And.go ?_; refine AndI ?_)
    | fail)
  all_goals (try clear ih)
  all_goals (try dsimp only)
  all_goals (repeat' apply And.intro)
  all_goals first | omega | (simp only [ZL]; omega) | skip
  all_goals (try clear hr hk hB)
  all_goals first | (rw [hi2, lvG_no ‹_› hc]; done) | (rw [hi2, lvG_no ‹_› hc]; rfl) | (rw [hi2, lvG_end ‹_›]; done) | (rw [hi2, lvG_end ‹_›]; rfl) | (rw [hi2, lvG_go ‹_› hc]; done) | (show (lvQ _ _).1.length ≤ _; omega) | (rw [hlast, hi2, lvG_go ‹_› hc]; done) | (rw [hlast]; show (lvQ _ _).1.length ≤ _; omega)
def sboQ (s : List UInt8) (A B : Lvl) : Bool := (lvsQ s [A, B]).2 && (lvsQ s [B, A]).2 && ((lvsQ s [A, B]).1.getD 2 default == (lvsQ s [B, A]).1.getD 2 default)
def C_sbo (P : Program) (k : Nat) : Prop := ∀ (s : List UInt8) (A B : Lvl), s.length ≤ 4294967295 → ok mxs A → ok mxs B → RunsF P k [.str s, .agg (Dat.row A), .agg (Dat.row B)] (.bool (sboQ s A B))
theorem lvs_len2 (s : List UInt8) (A B : Lvl) : (lvsQ s [A, B]).2 = false ∨ (lvsQ s [A, B]).1.length = 3 := lvs_len s [A, B]
/-- impl.SameByOrder -/
def i_SameByOrder.x (c_i_ApplyLevels : Nat) : XCode :=
  (.seq
    (.reg [⟨(some 4), .boxF, [.t 1], none⟩,
      ⟨(some 5), .boxF, [.t 2], none⟩,
      ⟨(some 6), .mv, [.k (.bool false)], none⟩] [0, 4, 5])
    (.seq
      (.reg [⟨(some 12), .mv, [.t 0], none⟩,
        ⟨(some 13), (.ld (some 2)), [.t 4], none⟩,
        ⟨(some 14), (.ld (some 2)), [.t 5], none⟩,
        ⟨(some 15), (.bsl 0 2), [.t 13, .t 14], none⟩,
        ⟨(some 16), .call, [.k (.fn c_i_ApplyLevels []), .t 12, .t 15], none⟩,
        ⟨(some 11), .mv, [.t 16], none⟩,
        ⟨(some 17), (.ext 0), [.t 11], none⟩,
        ⟨(some 18), (.ext 1), [.t 11], none⟩,
        ⟨(some 7), .mv, [.t 17], none⟩,
        ⟨(some 8), .mv, [.t 18], none⟩] [0, 4, 5, 7, 8])
      (.seq
        (.reg [⟨(some 20), .mv, [.t 0], none⟩,
          ⟨(some 21), (.ld (some 2)), [.t 5], none⟩,
          ⟨(some 22), (.ld (some 2)), [.t 4], none⟩,
          ⟨(some 23), (.bsl 0 2), [.t 21, .t 22], none⟩,
          ⟨(some 24), .call, [.k (.fn c_i_ApplyLevels []), .t 20, .t 23], none⟩,
          ⟨(some 19), .mv, [.t 24], none⟩,
          ⟨(some 25), (.ext 0), [.t 19], none⟩,
          ⟨(some 26), (.ext 1), [.t 19], none⟩,
          ⟨(some 9), .mv, [.t 25], none⟩,
          ⟨(some 10), .mv, [.t 26], none⟩] [7, 8, 9, 10])
        (.seq
          (.drw [(⟨(some 27), .mv, [.t 8], none⟩, []),
            (⟨(some 28), .mv, [.t 27], none⟩, [0]),
            (⟨(some 29), .mv, [.t 10], (some (28, true))⟩, [1]),
            (⟨(some 30), .pick, [.t 28, .t 29, .k (.bool false)], none⟩, [1, 2]),
            (⟨(some 31), .mv, [.t 30], none⟩, [3, 1]),
            (⟨(some 32), .mv, [.t 7], (some (31, true))⟩, [4]),
            (⟨(some 33), (.idxA 1), [.t 32, .k (.int .i64 2)], (some (31, true))⟩, [5, 4]),
            (⟨(some 34), (.ld none), [.t 33], (some (31, true))⟩, [6, 4]),
            (⟨(some 35), .mv, [.t 9], (some (31, true))⟩, [4]),
            (⟨(some 36), (.idxA 1), [.t 35, .k (.int .i64 2)], (some (31, true))⟩, [8, 4]),
            (⟨(some 37), (.ld none), [.t 36], (some (31, true))⟩, [9, 4]),
            (⟨(some 38), (.bin .eql), [.t 34, .t 37], (some (31, true))⟩, [7, 10, 4]),
            (⟨(some 39), .pick, [.t 31, .t 38, .k (.bool false)], none⟩, [4, 11]),
            (⟨(some 6), .mv, [.t 39], none⟩, [12, 4, 0, 1, 2, 3, 4, 5, 6, 7, 8, 9, 10, 11, 12])] [6] [0, 0, 0, 0, 0, 0, 0, 0, 0, 0, 0, 0, 0, 0])
          .ret))))
def i_SameByOrder.F : Cfg := ⟨fun _ => 0, fun r => match r with | 0 => [0, 4, 5] | 1 => [0, 4, 5, 7, 8] | 2 => [7, 8, 9, 10] | 3 => [6] | 1000003 => [0, 0, 0, 0, 0, 0, 0, 0, 0, 0, 0, 0, 0, 0] | _ => []⟩
def i_SameByOrder.X (c_i_ApplyLevels : Nat) : FX := ⟨40, [.tmp 6], i_SameByOrder.F, i_SameByOrder.x c_i_ApplyLevels⟩

theorem i_SameByOrder.ok {P : Program} {k c_i_ApplyLevels : Nat} (hk : Has P k (i_SameByOrder.X c_i_ApplyLevels)) (h1 : C_lvs P c_i_ApplyLevels) : C_sbo P k := by
  intro s A B hs hA hB0 n H
  have k1 := h1 s [A, B] hs ⟨by simp [mxs], by intro x hx; simp at hx; rcases hx with rfl | rfl; exact hA; exact hB0⟩
  have k2 := h1 s [B, A] hs ⟨by simp [mxs], by intro x hx; simp at hx; rcases hx with rfl | rfl; exact hB0; exact hA⟩
  have l1 := lvs_len2 s A B
  have l2 := lvs_len2 s B A
  rcases l1 with e1 | e1
  · rw [e1] at k1
    refine S.ofX hk rfl fun hB fn hr => ?_
    unfold i_SameByOrder.x
    repeat' (first
      | ((with_reducible refine S.go ?_); first | refine S.seq ?_ | refine S.skip ?_ | refine S.block ?_ | refine S.inBlock ?_ | refine S.exit rfl ?_ | refine S.regN ?_ | refine S.reg ?_ | refine S.drw hk.mo (by kernel_rfl) ?_ | (refine S.cond rfl (fun hc => ?_) (fun hc => ?_) <;> try simp only [HC] at hc) | refine S.retH hr rfl ?_ | refine S.finH hr rfl ?_ | (refine S.retK hr ?_; refine TRdt ?_) | fail)
      | ((first | with_reducible refine Ns.go ?_ | with_reducible refine XOs.go ?_ | with_reducible refine XDs.go ?_ | with_reducible refine OK.go ?_); (first | refine TTdt ?_ | (apply Ns.sc ⟨rfl, rfl⟩ rfl; intro hg) | (refine OK.tr ?_; refine TTdt ?_)); (try simp only [HC] at hg))
      | with_reducible exact rfl | exact ⟨rfl, rfl, rfl⟩
      | ((with_reducible refine RunsT.go ?_); first | refine RunsF.apf (k1) rfl ?_ | refine RunsF.apf (k2) rfl ?_ | fail)
      | ((with_reducible refine RunsD.go ?_); first | refine RunsF.apd (k1) rfl ?_ | refine RunsF.apd (k2) rfl ?_ | fail)
      | ((with_reducible refine Gd.go ?_); refine Gd.on (fun hg => ?_) (fun hg => ?_) <;> refine TGdt ?_ <;> (try simp only [HC] at hg))
      | ((with_reducible refine Fin.go ?_); first | (refine Fin.p ?_; first | exact FT | (try refine TTdt ?_; try simp only [LF])) | refine Fin.a0 ?_ | refine Fin.a ?_ | refine Fin.ni ?_ | refine Fin.v ?_ ?_ | refine Fin.r ?_ ?_ | exact Fin.th | (refine Fin.t ?_; try simp only [AV.sl.injEq]))
      | (refine And.go ?_; refine AndI ?_)
      | fail)
    all_goals (try clear hr hk hB)
    all_goals (rw [sboQ, e1]; rfl)
  rcases l2 with e2 | e2
  · rw [e2] at k2
    refine S.ofX hk rfl fun hB fn hr => ?_
    unfold i_SameByOrder.x
    repeat' (first
      | ((with_reducible refine S.go ?_); first | refine S.seq ?_ | refine S.skip ?_ | refine S.block ?_ | refine S.inBlock ?_ | refine S.exit rfl ?_ | refine S.regN ?_ | refine S.reg ?_ | refine S.drw hk.mo (by kernel_rfl) ?_ | (refine S.cond rfl (fun hc => ?_) (fun hc => ?_) <;> try simp only [HC] at hc) | refine S.retH hr rfl ?_ | refine S.finH hr rfl ?_ | (refine S.retK hr ?_; refine TRdt ?_) | fail)
      | ((first | with_reducible refine Ns.go ?_ | with_reducible refine XOs.go ?_ | with_reducible refine XDs.go ?_ | with_reducible refine OK.go ?_); (first | refine TTdt ?_ | (apply Ns.sc ⟨rfl, rfl⟩ rfl; intro hg) | (refine OK.tr ?_; refine TTdt ?_)); (try simp only [HC] at hg))
      | with_reducible exact rfl | exact ⟨rfl, rfl, rfl⟩
      | ((with_reducible refine RunsT.go ?_); first | refine RunsF.apf (k1) rfl ?_ | refine RunsF.apf (k2) rfl ?_ | fail)
      | ((with_reducible refine RunsD.go ?_); first | refine RunsF.apd (k1) rfl ?_ | refine RunsF.apd (k2) rfl ?_ | fail)
      | ((with_reducible refine Gd.go ?_); refine Gd.on (fun hg => ?_) (fun hg => ?_) <;> refine TGdt ?_ <;> (try simp only [HC] at hg))
      | ((with_reducible refine Fin.go ?_); first | (refine Fin.p ?_; first | exact FT | (try refine TTdt ?_; try simp only [LF])) | refine Fin.a0 ?_ | refine Fin.a ?_ | refine Fin.ni ?_ | refine Fin.v ?_ ?_ | refine Fin.r ?_ ?_ | exact Fin.th | (refine Fin.t ?_; try simp only [AV.sl.injEq]))
      | (refine And.go ?_; refine AndI ?_)
      | fail)
    all_goals (try clear hr hk hB)
    all_goals (rw [sboQ, e2, Bool.and_false]; rfl)
  refine S.ofX hk rfl fun hB fn hr => ?_
  unfold i_SameByOrder.x
  repeat' (first
    | ((with_reducible refine S.go ?_); first | refine S.seq ?_ | refine S.skip ?_ | refine S.block ?_ | refine S.inBlock ?_ | refine S.exit rfl ?_ | refine S.regN ?_ | refine S.reg ?_ | refine S.drw hk.mo (by kernel_rfl) ?_ | (refine S.cond rfl (fun hc => ?_) (fun hc => ?_) <;> try simp only [HC] at hc) | refine S.retH hr rfl ?_ | refine S.finH hr rfl ?_ | (refine S.retK hr ?_; refine TRdt ?_) | fail)
    | ((first | with_reducible refine Ns.go ?_ | with_reducible refine XOs.go ?_ | with_reducible refine XDs.go ?_ | with_reducible refine OK.go ?_); (first | refine TTdt ?_ | (apply Ns.sc ⟨rfl, rfl⟩ rfl; intro hg) | (refine OK.tr ?_; refine TTdt ?_)); (try simp only [HC] at hg))
    | with_reducible exact rfl | exact ⟨rfl, rfl, rfl⟩
    | ((with_reducible refine RunsT.go ?_); first | refine RunsF.apf (k1) rfl ?_ | refine RunsF.apf (k2) rfl ?_ | fail)
    | ((with_reducible refine RunsD.go ?_); first | refine RunsF.apd (k1) rfl ?_ | refine RunsF.apd (k2) rfl ?_ | fail)
    | ((with_reducible refine Gd.go ?_); refine Gd.on (fun hg => ?_) (fun hg => ?_) <;> refine TGdt ?_ <;> (try simp only [HC] at hg))
    | ((with_reducible refine Fin.go ?_); first | (refine Fin.p ?_; first | exact FT | (try refine TTdt ?_; try simp only [LF])) | refine Fin.a0 ?_ | refine Fin.a ?_ | refine Fin.ni ?_ | refine Fin.v ?_ ?_ | refine Fin.r ?_ ?_ | exact Fin.th | (refine Fin.t ?_; try simp only [AV.sl.injEq]))
    | (refine And.go ?_; refine AndI ?_)
    | fail)
  all_goals (try clear hr hk hB)
  all_goals (simp [sboQ, *]; done)
/-- spec.SameByOrder -/
def s_SameByOrder.x (c_s_ApplyLevels : Nat) : XCode :=
  (.seq
    (.reg [⟨(some 4), .boxF, [.t 1], none⟩,
      ⟨(some 5), .boxF, [.t 2], none⟩,
      ⟨(some 6), .mv, [.k (.bool false)], none⟩] [0, 4, 5])
    (.seq
      (.reg [⟨(some 12), .mv, [.t 0], none⟩,
        ⟨(some 13), (.ld (some 2)), [.t 4], none⟩,
        ⟨(some 14), (.ld (some 2)), [.t 5], none⟩,
        ⟨(some 15), (.bsl 0 2), [.t 13, .t 14], none⟩,
        ⟨(some 16), .call, [.k (.fn c_s_ApplyLevels []), .t 12, .t 15], none⟩,
        ⟨(some 11), .mv, [.t 16], none⟩,
        ⟨(some 17), (.ext 0), [.t 11], none⟩,
        ⟨(some 18), (.ext 1), [.t 11], none⟩,
        ⟨(some 7), .mv, [.t 17], none⟩,
        ⟨(some 8), .mv, [.t 18], none⟩] [0, 4, 5, 7, 8])
      (.seq
        (.reg [⟨(some 20), .mv, [.t 0], none⟩,
          ⟨(some 21), (.ld (some 2)), [.t 5], none⟩,
          ⟨(some 22), (.ld (some 2)), [.t 4], none⟩,
          ⟨(some 23), (.bsl 0 2), [.t 21, .t 22], none⟩,
          ⟨(some 24), .call, [.k (.fn c_s_ApplyLevels []), .t 20, .t 23], none⟩,
          ⟨(some 19), .mv, [.t 24], none⟩,
          ⟨(some 25), (.ext 0), [.t 19], none⟩,
          ⟨(some 26), (.ext 1), [.t 19], none⟩,
          ⟨(some 9), .mv, [.t 25], none⟩,
          ⟨(some 10), .mv, [.t 26], none⟩] [7, 8, 9, 10])
        (.seq
          (.drw [(⟨(some 27), .mv, [.t 8], none⟩, []),
            (⟨(some 28), .mv, [.t 27], none⟩, [0]),
            (⟨(some 29), .mv, [.t 10], (some (28, true))⟩, [1]),
            (⟨(some 30), .pick, [.t 28, .t 29, .k (.bool false)], none⟩, [1, 2]),
            (⟨(some 31), .mv, [.t 30], none⟩, [3, 1]),
            (⟨(some 32), .mv, [.t 7], (some (31, true))⟩, [4]),
            (⟨(some 33), (.idxA 1), [.t 32, .k (.int .i64 2)], (some (31, true))⟩, [5, 4]),
            (⟨(some 34), (.ld none), [.t 33], (some (31, true))⟩, [6, 4]),
            (⟨(some 35), .mv, [.t 9], (some (31, true))⟩, [4]),
            (⟨(some 36), (.idxA 1), [.t 35, .k (.int .i64 2)], (some (31, true))⟩, [8, 4]),
            (⟨(some 37), (.ld none), [.t 36], (some (31, true))⟩, [9, 4]),
            (⟨(some 38), (.bin .eql), [.t 34, .t 37], (some (31, true))⟩, [7, 10, 4]),
            (⟨(some 39), .pick, [.t 31, .t 38, .k (.bool false)], none⟩, [4, 11]),
            (⟨(some 6), .mv, [.t 39], none⟩, [12, 4, 0, 1, 2, 3, 4, 5, 6, 7, 8, 9, 10, 11, 12])] [6] [0, 0, 0, 0, 0, 0, 0, 0, 0, 0, 0, 0, 0, 0])
          .ret))))
def s_SameByOrder.F : Cfg := ⟨fun _ => 0, fun r => match r with | 0 => [0, 4, 5] | 1 => [0, 4, 5, 7, 8] | 2 => [7, 8, 9, 10] | 3 => [6] | 1000003 => [0, 0, 0, 0, 0, 0, 0, 0, 0, 0, 0, 0, 0, 0] | _ => []⟩
def s_SameByOrder.X (c_s_ApplyLevels : Nat) : FX := ⟨40, [.tmp 6], s_SameByOrder.F, s_SameByOrder.x c_s_ApplyLevels⟩

theorem s_SameByOrder.ok {P : Program} {k c_s_ApplyLevels : Nat} (hk : Has P k (s_SameByOrder.X c_s_ApplyLevels)) (h1 : C_lvs P c_s_ApplyLevels) : C_sbo P k := by
  intro s A B hs hA hB0 n H
  have k1 := h1 s [A, B] hs ⟨by simp [mxs], by intro x hx; simp at hx; rcases hx with rfl | rfl; exact hA; exact hB0⟩
  have k2 := h1 s [B, A] hs ⟨by simp [mxs], by intro x hx; simp at hx; rcases hx with rfl | rfl; exact hB0; exact hA⟩
  have l1 := lvs_len2 s A B
  have l2 := lvs_len2 s B A
  rcases l1 with e1 | e1
  · rw [e1] at k1
    refine S.ofX hk rfl fun hB fn hr => ?_
    unfold s_SameByOrder.x
    repeat' (first
      | ((with_reducible refine S.go ?_); first | refine S.seq ?_ | refine S.skip ?_ | refine S.block ?_ | refine S.inBlock ?_ | refine S.exit rfl ?_ | refine S.regN ?_ | refine S.reg ?_ | refine S.drw hk.mo (by kernel_rfl) ?_ | (refine S.cond rfl (fun hc => ?_) (fun hc => ?_) <;> try simp only [HC] at hc) | refine S.retH hr rfl ?_ | refine S.finH hr rfl ?_ | (refine S.retK hr ?_; refine TRdt ?_) | fail)
      | ((first | with_reducible refine Ns.go ?_ | with_reducible refine XOs.go ?_ | with_reducible refine XDs.go ?_ | with_reducible refine OK.go ?_); (first | refine TTdt ?_ | (apply Ns.sc ⟨rfl, rfl⟩ rfl; intro hg) | (refine OK.tr ?_; refine TTdt ?_)); (try simp only [HC] at hg))
      | with_reducible exact rfl | exact ⟨rfl, rfl, rfl⟩
      | ((with_reducible refine RunsT.go ?_); first | refine RunsF.apf (k1) rfl ?_ | refine RunsF.apf (k2) rfl ?_ | fail)
      | ((with_reducible refine RunsD.go ?_); first | refine RunsF.apd (k1) rfl ?_ | refine RunsF.apd (k2) rfl ?_ | fail)
      | ((with_reducible refine Gd.go ?_); refine Gd.on (fun hg => ?_) (fun hg => ?_) <;> refine TGdt ?_ <;> (try simp only [HC] at hg))
      | ((with_reducible refine Fin.go ?_); first | (refine Fin.p ?_; first | exact FT | (try refine TTdt ?_; try simp only [LF])) | refine Fin.a0 ?_ | refine Fin.a ?_ | refine Fin.ni ?_ | refine Fin.v ?_ ?_ | refine Fin.r ?_ ?_ | exact Fin.th | (refine Fin.t ?_; try simp only [AV.sl.injEq]))
      | (refine And.go ?_; refine AndI ?_)
      | fail)
    all_goals (try clear hr hk hB)
    all_goals (rw [sboQ, e1]; rfl)
  rcases l2 with e2 | e2
  · rw [e2] at k2
    refine S.ofX hk rfl fun hB fn hr => ?_
    unfold s_SameByOrder.x
    repeat' (first
      | ((with_reducible refine S.go ?_); first | refine S.seq ?_ | refine S.skip ?_ | refine S.block ?_ | refine S.inBlock ?_ | refine S.exit rfl ?_ | refine S.regN ?_ | refine S.reg ?_ | refine S.drw hk.mo (by kernel_rfl) ?_ | (refine S.cond rfl (fun hc => ?_) (fun hc => ?_) <;> try simp only [HC] at hc) | refine S.retH hr rfl ?_ | refine S.finH hr rfl ?_ | (refine S.retK hr ?_; refine TRdt ?_) | fail)
      | ((first | with_reducible refine Ns.go ?_ | with_reducible refine XOs.go ?_ | with_reducible refine XDs.go ?_ | with_reducible refine OK.go ?_); (first | refine TTdt ?_ | (apply Ns.sc ⟨rfl, rfl⟩ rfl; intro hg) | (refine OK.tr ?_; refine TTdt ?_)); (try simp only [HC] at hg))
      | with_reducible exact rfl | exact ⟨rfl, rfl, rfl⟩
      | ((with_reducible refine RunsT.go ?_); first | refine RunsF.apf (k1) rfl ?_ | refine RunsF.apf (k2) rfl ?_ | fail)
      | ((with_reducible refine RunsD.go ?_); first | refine RunsF.apd (k1) rfl ?_ | refine RunsF.apd (k2) rfl ?_ | fail)
      | ((with_reducible refine Gd.go ?_); refine Gd.on (fun hg => ?_) (fun hg => ?_) <;> refine TGdt ?_ <;> (try simp only [HC] at hg))
      | ((with_reducible refine Fin.go ?_); first | (refine Fin.p ?_; first | exact FT | (try refine TTdt ?_; try simp only [LF])) | refine Fin.a0 ?_ | refine Fin.a ?_ | refine Fin.ni ?_ | refine Fin.v ?_ ?_ | refine Fin.r ?_ ?_ | exact Fin.th | (refine Fin.t ?_; try simp only [AV.sl.injEq]))
      | (refine And.go ?_; refine AndI ?_)
      | fail)
    all_goals (try clear hr hk hB)
    all_goals (rw [sboQ, e2, Bool.and_false]; rfl)
  refine S.ofX hk rfl fun hB fn hr => ?_
  unfold s_SameByOrder.x
  repeat' (first
    | ((with_reducible refine S.go ?_); first | refine S.seq ?_ | refine S.skip ?_ | refine S.block ?_ | refine S.inBlock ?_ | refine S.exit rfl ?_ | refine S.regN ?_ | refine S.reg ?_ | refine S.drw hk.mo (by kernel_rfl) ?_ | (refine S.cond rfl (fun hc => ?_) (fun hc => ?_) <;> try simp only [HC] at hc) | refine S.retH hr rfl ?_ | refine S.finH hr rfl ?_ | (refine S.retK hr ?_; refine TRdt ?_) | fail)
    | ((first | with_reducible refine Ns.go ?_ | with_reducible refine XOs.go ?_ | with_reducible refine XDs.go ?_ | with_reducible refine OK.go ?_); (first | refine TTdt ?_ | (apply Ns.sc ⟨rfl, rfl⟩ rfl; intro hg) | (refine OK.tr ?_; refine TTdt ?_)); (try simp only [HC] at hg))
    | with_reducible exact rfl | exact ⟨rfl, rfl, rfl⟩
    | ((with_reducible refine RunsT.go ?_); first | refine RunsF.apf (k1) rfl ?_ | refine RunsF.apf (k2) rfl ?_ | fail)
    | ((with_reducible refine RunsD.go ?_); first | refine RunsF.apd (k1) rfl ?_ | refine RunsF.apd (k2) rfl ?_ | fail)
    | ((with_reducible refine Gd.go ?_); refine Gd.on (fun hg => ?_) (fun hg => ?_) <;> refine TGdt ?_ <;> (try simp only [HC] at hg))
    | ((with_reducible refine Fin.go ?_); first | (refine Fin.p ?_; first | exact FT | (try refine TTdt ?_; try simp only [LF])) | refine Fin.a0 ?_ | refine Fin.a ?_ | refine Fin.ni ?_ | refine Fin.v ?_ ?_ | refine Fin.r ?_ ?_ | exact Fin.th | (refine Fin.t ?_; try simp only [AV.sl.injEq]))
    | (refine And.go ?_; refine AndI ?_)
    | fail)
  all_goals (try clear hr hk hB)
  all_goals (simp [sboQ, *]; done)
def opqQ (s : List UInt8) (ls : List Lvl) : Bool := if (lvsQ s ls).2 = true ∧ ls ≠ [] then (lvQ s (ls.getD (ls.length - 1) default)).2 && !((lvQ s (ls.getD (ls.length - 1) default)).1 == (lvsQ s ls).1.getD ((lvsQ s ls).1.length - 1) default) else false
def C_opq (P : Program) (k : Nat) : Prop := ∀ (s : List UInt8) (ls : List Lvl), s.length ≤ 4294967295 → ok mxs ls → RunsF P k [.str s, .sl (enc ls)] (.bool (opqQ s ls))
end Go.G11
end
section
namespace Go.G12
open Go.Ab Siz Go.Lib01 Go.Lib03 Go.M01 Go.M02 Go.N02 Go.G01 Go.G02 Go.G03 Go.G04 Go.G05 Go.G06 Go.G07 Go.G08 Go.G09 Go.G10 Go.G11
set_option linter.unusedVariables false
set_option linter.unusedSimpArgs false
set_option maxRecDepth 2000
def C_lawSLv (P : Program) (k : Nat) : Prop := ∀ (s : List UInt8) (L : Lvl), ok mxi s → ok mxi L → RunsF P k [.str s, .agg (Dat.row L)] (.bool true)
def C_lawSCR (P : Program) (k : Nat) : Prop := ∀ (s : List UInt8) (c : List (List UInt8)) (r : List Int), ok mxi s → ok mxi c → ok mxi r → RunsF P k [.str s, .sl (enc c), .sl (enc r)] (.bool true)
def C_lawSLL (P : Program) (k : Nat) : Prop := ∀ (s : List UInt8) (A B : Lvl), ok mxi s → ok mxi A → ok mxi B → RunsF P k [.str s, .agg (Dat.row A), .agg (Dat.row B)] (.bool true)
/-- laws.FnExactSameByOrder -/
def w_FnExactSameByOrder.x (c_w_szLevel c_w_toLevel c_s_SameByOrder c_i_SameByOrder c_w_eqLevel : Nat) : XCode :=
  (.seq
    (.reg [⟨(some 4), .boxF, [.t 1], none⟩,
      ⟨(some 5), .boxF, [.t 2], none⟩,
      ⟨(some 6), .mv, [.k (.bool false)], none⟩] [0, 4, 5])
    (.seq
      (.seq
        (.reg [⟨(some 12), .mv, [.t 0], none⟩,
          ⟨(some 13), .lenS, [.t 12], none⟩,
          ⟨(some 14), (.bin .gtr), [.t 13, .k (.int .i64 1048576)], none⟩] [0, 4, 5, 14])
        (.cond (.t 14)
          (.seq
            (.reg [⟨(some 6), .mv, [.k (.bool true)], none⟩] [6])
            .ret)
          .skip))
      (.seq
        (.reg [⟨(some 7), .mv, [.k (.int .i64 1048576)], none⟩] [0, 4, 5, 7])
        (.seq
          (.reg [⟨(some 15), (.ld (some 2)), [.t 4], none⟩,
            ⟨(some 16), .mv, [.t 7], none⟩,
            ⟨(some 17), .call, [.k (.fn c_w_szLevel []), .t 15, .t 16], none⟩,
            ⟨(some 7), .mv, [.t 17], none⟩] [0, 4, 5, 7])
          (.seq
            (.seq
              (.reg [⟨(some 18), .mv, [.t 7], none⟩,
                ⟨(some 19), (.bin .lss), [.t 18, .k (.int .i64 0)], none⟩] [0, 4, 5, 7, 19])
              (.cond (.t 19)
                (.seq
                  (.reg [⟨(some 6), .mv, [.k (.bool true)], none⟩] [6])
                  .ret)
                .skip))
            (.seq
              (.reg [⟨(some 20), (.ld (some 2)), [.t 5], none⟩,
                ⟨(some 21), .mv, [.t 7], none⟩,
                ⟨(some 22), .call, [.k (.fn c_w_szLevel []), .t 20, .t 21], none⟩,
                ⟨(some 7), .mv, [.t 22], none⟩] [0, 4, 5, 7])
              (.seq
                (.seq
                  (.reg [⟨(some 23), .mv, [.t 7], none⟩,
                    ⟨(some 24), (.bin .lss), [.t 23, .k (.int .i64 0)], none⟩] [0, 4, 5, 24])
                  (.cond (.t 24)
                    (.seq
                      (.reg [⟨(some 6), .mv, [.k (.bool true)], none⟩] [6])
                      .ret)
                    .skip))
                (.seq
                  (.drw [(⟨(some 25), .mv, [.t 0], none⟩, []),
                    (⟨(some 26), (.ld (some 2)), [.t 4], none⟩, []),
                    (⟨(some 27), .call, [.k (.fn c_w_toLevel []), .t 26], none⟩, [1]),
                    (⟨(some 28), (.ld (some 2)), [.t 5], none⟩, []),
                    (⟨(some 29), .call, [.k (.fn c_w_toLevel []), .t 28], none⟩, [3, 2]),
                    (⟨(some 30), .call, [.k (.fn c_s_SameByOrder []), .t 25, .t 27, .t 29], none⟩, [0, 2, 4, 4]),
                    (⟨(some 8), .mv, [.t 30], none⟩, [5, 5, 0, 1, 2, 3, 4, 5])] [0, 4, 5, 8] [0, 0, 0, 0, 0, 0, 0])
                  (.seq
                    (.reg [⟨(some 31), (.ld (some 2)), [.t 4], none⟩,
                      ⟨(some 32), .call, [.k (.fn c_w_toLevel []), .t 31], none⟩,
                      ⟨(some 9), (.alloc [.nilsl, .nilsl]), [], none⟩,
                      ⟨none, (.st (some 2)), [.t 9, .t 32], none⟩] [0, 4, 5, 8, 9])
                    (.seq
                      (.reg [⟨(some 33), (.ld (some 2)), [.t 5], none⟩,
                        ⟨(some 34), .call, [.k (.fn c_w_toLevel []), .t 33], none⟩,
                        ⟨(some 10), (.alloc [.nilsl, .nilsl]), [], none⟩,
                        ⟨none, (.st (some 2)), [.t 10, .t 34], none⟩] [0, 4, 5, 8, 9, 10])
                      (.seq
                        (.reg [⟨(some 35), .mv, [.t 0], none⟩,
                          ⟨(some 36), (.ld (some 2)), [.t 9], none⟩,
                          ⟨(some 37), (.ld (some 2)), [.t 10], none⟩,
                          ⟨(some 38), .call, [.k (.fn c_i_SameByOrder []), .t 35, .t 36, .t 37], none⟩,
                          ⟨(some 11), .mv, [.t 38], none⟩] [4, 5, 8, 9, 10, 11])
                        (.seq
                          (.seq
                            (.reg [⟨(some 39), .mv, [.t 11], none⟩,
                              ⟨(some 40), .mv, [.t 8], none⟩,
                              ⟨(some 41), (.binB true), [.t 39, .t 40], none⟩] [4, 5, 9, 10, 41])
                            (.cond (.t 41)
                              (.seq
                                (.reg [⟨(some 6), .mv, [.k (.bool false)], none⟩] [6])
                                .ret)
                              .skip))
                          (.seq
                            (.seq
                              (.drw [(⟨(some 42), (.ld (some 2)), [.t 9], none⟩, []),
                                (⟨(some 43), (.ld (some 2)), [.t 4], none⟩, []),
                                (⟨(some 44), .call, [.k (.fn c_w_toLevel []), .t 43], none⟩, [1]),
                                (⟨(some 45), .call, [.k (.fn c_w_eqLevel []), .t 42, .t 44], none⟩, [0, 2, 2]),
                                (⟨(some 46), (.un .not), [.t 45], none⟩, [3])] [5, 10, 46] [1, 0, 0, 0, 0])
                              (.cond (.t 46)
                                (.seq
                                  (.reg [⟨(some 6), .mv, [.k (.bool false)], none⟩] [6])
                                  .ret)
                                .skip))
                            (.seq
                              (.seq
                                (.drw [(⟨(some 47), (.ld (some 2)), [.t 10], none⟩, []),
                                  (⟨(some 48), (.ld (some 2)), [.t 5], none⟩, []),
                                  (⟨(some 49), .call, [.k (.fn c_w_toLevel []), .t 48], none⟩, [1]),
                                  (⟨(some 50), .call, [.k (.fn c_w_eqLevel []), .t 47, .t 49], none⟩, [0, 2, 2]),
                                  (⟨(some 51), (.un .not), [.t 50], none⟩, [3])] [51] [1, 0, 0, 0, 0])
                                (.cond (.t 51)
                                  (.seq
                                    (.reg [⟨(some 6), .mv, [.k (.bool false)], none⟩] [6])
                                    .ret)
                                  .skip))
                              (.seq
                                (.reg [⟨(some 6), .mv, [.k (.bool true)], none⟩] [6])
                                .ret)))))))))))))))
def w_FnExactSameByOrder.F : Cfg := ⟨fun _ => 0, fun r => match r with | 0 => [0, 4, 5] | 1 => [0, 4, 5, 14] | 2 => [6] | 3 => [0, 4, 5, 7] | 4 => [0, 4, 5, 7] | 5 => [0, 4, 5, 7, 19] | 6 => [6] | 7 => [0, 4, 5, 7] | 8 => [0, 4, 5, 24] | 9 => [6] | 10 => [0, 4, 5, 8] | 11 => [0, 4, 5, 8, 9] | 12 => [0, 4, 5, 8, 9, 10] | 13 => [4, 5, 8, 9, 10, 11] | 14 => [4, 5, 9, 10, 41] | 15 => [6] | 16 => [5, 10, 46] | 17 => [6] | 18 => [51] | 19 => [6] | 20 => [6] | 1000010 => [0, 0, 0, 0, 0, 0, 0] | 1000016 => [1, 0, 0, 0, 0] | 1000018 => [1, 0, 0, 0, 0] | _ => []⟩
def w_FnExactSameByOrder.X (c_w_szLevel c_w_toLevel c_s_SameByOrder c_i_SameByOrder c_w_eqLevel : Nat) : FX := ⟨52, [.tmp 6], w_FnExactSameByOrder.F, w_FnExactSameByOrder.x c_w_szLevel c_w_toLevel c_s_SameByOrder c_i_SameByOrder c_w_eqLevel⟩

theorem w_FnExactSameByOrder.ok {P : Program} {k c_w_szLevel c_w_toLevel c_s_SameByOrder c_i_SameByOrder c_w_eqLevel : Nat} (hk : Has P k (w_FnExactSameByOrder.X c_w_szLevel c_w_toLevel c_s_SameByOrder c_i_SameByOrder c_w_eqLevel)) (h1 : C_szT Lvl P c_w_szLevel) (h2 : C_toT Lvl P c_w_toLevel) (h3 : C_sbo P c_s_SameByOrder) (h4 : C_sbo P c_i_SameByOrder) (h5 : C_eqT Lvl P c_w_eqLevel) : C_lawSLL P k := by
  intro s x y hs hx hy n H
  have hs : s.length ≤ 9223372036854775807 := hs
  have k1 := h1 x 1048576 hx (by omega) (by omega)
  have u1 := up x 1048576 (by omega)
  have l1 := lo x 1048576 (by omega)
  have k2 := h1 y (sz x 1048576) hy l1 u1
  have o1 := fun h => mono _ mxs x (by unfold mxs; omega) (okk _ x 1048576 hx h (by omega))
  have o2 := fun h => mono _ mxs y (by unfold mxs; omega) (okk _ y (sz x 1048576) hy h l1)
  refine S.ofX hk rfl fun hB fn hr => ?_
  unfold w_FnExactSameByOrder.x
  repeat' (first
    | ((with_reducible refine S.go ?_); first | refine S.seq ?_ | refine S.skip ?_ | refine S.block ?_ | refine S.inBlock ?_ | refine S.exit rfl ?_ | refine S.regN ?_ | refine S.reg ?_ | refine S.drw hk.mo (by kernel_rfl) ?_ | (refine S.cond rfl (fun hc => ?_) (fun hc => ?_) <;> try simp only [HC] at hc) | refine S.retH hr rfl ?_ | refine S.finH hr rfl ?_ | (refine S.retK hr ?_; refine TRdt ?_) | fail)
    | ((first | with_reducible refine Ns.go ?_ | with_reducible refine XOs.go ?_ | with_reducible refine XDs.go ?_ | with_reducible refine OK.go ?_); (first | refine TTdt ?_ | (apply Ns.sc ⟨rfl, rfl⟩ rfl; intro hg) | (refine OK.tr ?_; refine TTdt ?_)); (try simp only [HC] at hg))
    | with_reducible exact rfl | exact ⟨rfl, rfl, rfl⟩
    | ((with_reducible refine RunsT.go ?_); first | refine RunsF.apf (k1) rfl ?_ | refine RunsF.apf (k2) rfl ?_ | refine RunsF.apf (h2 _ (o1 (by omega))) rfl ?_ | refine RunsF.apf (h2 _ (o2 (by omega))) rfl ?_ | refine RunsF.apf (h3 _ _ _ (by omega) (o1 (by omega)) (o2 (by omega))) rfl ?_ | refine RunsF.apf (h4 _ _ _ (by omega) (o1 (by omega)) (o2 (by omega))) rfl ?_ | refine RunsF.apf (h5 _ _ (o1 (by omega)) (o1 (by omega))) rfl ?_ | refine RunsF.apf (h5 _ _ (o2 (by omega)) (o2 (by omega))) rfl ?_ | fail)
    | ((with_reducible refine RunsD.go ?_); first | refine RunsF.apd (k1) rfl ?_ | refine RunsF.apd (k2) rfl ?_ | refine RunsF.apd (h2 _ (o1 (by omega))) rfl ?_ | refine RunsF.apd (h2 _ (o2 (by omega))) rfl ?_ | refine RunsF.apd (h3 _ _ _ (by omega) (o1 (by omega)) (o2 (by omega))) rfl ?_ | refine RunsF.apd (h4 _ _ _ (by omega) (o1 (by omega)) (o2 (by omega))) rfl ?_ | refine RunsF.apd (h5 _ _ (o1 (by omega)) (o1 (by omega))) rfl ?_ | refine RunsF.apd (h5 _ _ (o2 (by omega)) (o2 (by omega))) rfl ?_ | fail)
    | ((with_reducible refine Gd.go ?_); refine Gd.on (fun hg => ?_) (fun hg => ?_) <;> refine TGdt ?_ <;> (try simp only [HC] at hg))
    | ((with_reducible refine Fin.go ?_); first | (refine Fin.p ?_; first | exact FT | (try refine TTdt ?_; try simp only [LF])) | refine Fin.a0 ?_ | refine Fin.a ?_ | refine Fin.ni ?_ | refine Fin.v ?_ ?_ | refine Fin.r ?_ ?_ | exact Fin.th | (refine Fin.t ?_; try simp only [AV.sl.injEq]))
    | (refine And.go ?_; refine AndI ?_)
    | fail)
  all_goals (try clear hr hk hB)
  all_goals first | exact absurd trivial hc | (rcases hc with h | h <;> exact absurd trivial h)
def C_lawSLs (P : Program) (k : Nat) : Prop := ∀ (s : List UInt8) (ls : List Lvl), ok mxi s → ok mxi ls → RunsF P k [.str s, .sl (enc ls)] (.bool true)
end Go.G12
end

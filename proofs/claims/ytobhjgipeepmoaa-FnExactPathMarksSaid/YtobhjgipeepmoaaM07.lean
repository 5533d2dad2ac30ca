/- Links and candidates as data; the law of the marks of paths. Over any program. -/
import Derived.Test.YtobhjgipeepmoaaM06
import Derived.Test.YtobhjgipeepmoaaAbTac
namespace Go.M07
open Go.Ab Go.Lib01 Go.Lib02 Go.Lib03 Go.Lib04 Go.M01 Go.M02 Go.M03 Go.M04 Go.M06
set_option linter.unusedVariables false
set_option linter.unusedSimpArgs false
set_option maxRecDepth 2000

theorem encL_flen (l : List Link) : (enc l).flatten.length = l.length * 2 := enc_flen l
theorem stL (c : List Link) (i : Nat) (a b : UInt8) (h : i < c.length) : setCells (enc c).flatten (0 + i * 2) [AV.int .u8 (a.toNat : Int), AV.int .u8 (b.toNat : Int)] = (enc (c.set i (a, b))).flatten := by
  rw [Nat.zero_add]; exact encf_set c i (a, b) h
theorem row2 (c : List Link) (i : Nat) (h : i < c.length) : (enc c).flatten.drop (i * 2) = AV.int .u8 ((c.getD i default).1.toNat : Int) :: AV.int .u8 ((c.getD i default).2.toNat : Int) :: (enc (c.drop (i + 1))).flatten := encf_drop c i h
theorem dr1 {α : Type} {l t : List α} {n : Nat} {a : α} (h : l.drop n = a :: t) : l.drop (n + 1) = t := by
  rw [← List.drop_drop, h]; rfl
theorem stLa (c : List Link) (i : Nat) (a : UInt8) (h : i < c.length) : setCells (enc c).flatten (0 + i * 2 + 0) [AV.int .u8 (a.toNat : Int)] = (enc (c.set i (a, (c.getD i default).2))).flatten := by
  rw [← stL c i a _ h]
  unfold setCells
  simp only [Nat.zero_add, Nat.add_zero, List.length_cons, List.length_nil]
  have e1 := dr1 (row2 c i h)
  have e2 := dr1 e1
  rw [e1, show i * 2 + 2 = i * 2 + 1 + 1 by omega, e2]
  simp
theorem stLb (c : List Link) (i : Nat) (b : UInt8) (h : i < c.length) : setCells (enc c).flatten (0 + i * 2 + 1) [AV.int .u8 (b.toNat : Int)] = (enc (c.set i ((c.getD i default).1, b))).flatten := by
  rw [← stL c i _ b h]
  unfold setCells
  simp only [Nat.zero_add, List.length_cons, List.length_nil]
  have e0 := row2 c i h
  have hlen : i * 2 < (enc c).flatten.length := by rw [encL_flen]; omega
  have e3 : (enc c).flatten.take (i * 2 + 1) = (enc c).flatten.take (i * 2) ++ [AV.int .u8 ((c.getD i default).1.toNat : Int)] := by
    rw [List.take_add, e0]; rfl
  rw [e3]
  simp
theorem stLb' (c : List Link) (i j : Nat) (x : Link) (b : UInt8) (h : i < c.length) : setCells (enc (c.set j x)).flatten (0 + i * 2 + 1) [AV.int .u8 (b.toNat : Int)] = (enc ((c.set j x).set i (((c.set j x).getD i default).1, b))).flatten := stLb _ i b (by rw [List.length_set]; exact h)
def wb (x : Int) : UInt8 := UInt8.ofNat (x % 256).toNat
theorem wrap_wb (x : Int) : IntKind.u8.wrap x = ((wb x).toNat : Int) := by
  have h1 : 0 ≤ x % 256 := Int.emod_nonneg _ (by decide)
  have h2 : x % 256 < 256 := Int.emod_lt_of_pos _ (by decide)
  unfold wb
  rw [UInt8.toNat_ofNat']
  simp [IntKind.wrap, IntKind.bits, IntKind.signed]
  omega
theorem TTm7 {A B : Prop} (hb : B) (h : B → A := by (intro hb; simp (disch := first | omega | decide | rfl) only [encL_flen, stL, stLa, stLb, stLb', wrap_wb, ZH, Z, ZH, List.set_cons_zero, List.set_cons_succ, ↓reduceIte, Nat.reduceEqDiff, Nat.reduceBEq, Nat.reduceAdd, reduceCtorEq, UInt8.reduceOfNat]; exact hb)) : A := h hb
theorem TRm7 {A B : Prop} (hb : B) (h : B → A := by (intro hb; simp (disch := first | omega | decide | rfl) only [ZR, encL_flen, stL, stLa, stLb, stLb', wrap_wb, ZH, Z, ZH, List.set_cons_zero, List.set_cons_succ, ↓reduceIte, Nat.reduceEqDiff, Nat.reduceBEq, Nat.reduceAdd, reduceCtorEq, UInt8.reduceOfNat]; exact hb)) : A := h hb
theorem TGm7 {A B : Prop} (hb : B) (h : B → A := by (intro hb; simp (disch := first | omega | decide | rfl) only [hg, encL_flen, stL, stLa, stLb, stLb', wrap_wb, ZH, Z, ZH, List.set_cons_zero, List.set_cons_succ, ↓reduceIte, Nat.reduceEqDiff, Nat.reduceBEq, Nat.reduceAdd, reduceCtorEq, UInt8.reduceOfNat]; exact hb)) : A := h hb
/-- What is left of a size. -/
def szN (len : Nat) (a : Int) : Int := if a - len < 0 then -1 else a - len
def C_szLinks (P : Program) (k : Nat) : Prop := ∀ (c : List Link) (a : Int), c.length ≤ 9223372036854775807 → -1 ≤ a → a ≤ 1048576 → RunsF P k [.sl (enc c), .int .i64 a] (.int .i64 (szN c.length a))
/-- laws.szLinkS -/
def w_szLinkS.x : XCode :=
  (.seq
    (.reg [⟨(some 4), .mv, [.k (.int .i64 0)], none⟩] [0, 1])
    (.seq
      (.reg [⟨(some 5), .mv, [.t 1], none⟩,
        ⟨(some 6), .mv, [.t 0], none⟩,
        ⟨(some 7), .lenL, [.t 6], none⟩,
        ⟨(some 8), (.bin .sub), [.t 5, .t 7], none⟩,
        ⟨(some 1), .mv, [.t 8], none⟩] [1])
      (.seq
        (.seq
          (.reg [⟨(some 9), .mv, [.t 1], none⟩,
            ⟨(some 10), (.bin .lss), [.t 9, .k (.int .i64 0)], none⟩] [1, 10])
          (.cond (.t 10)
            (.seq
              (.reg [⟨(some 4), .mv, [.k (.int .i64 (-1))], none⟩] [4])
              .ret)
            .skip))
        (.seq
          (.reg [⟨(some 11), .mv, [.t 1], none⟩,
            ⟨(some 4), .mv, [.t 11], none⟩] [4])
          .ret))))
def w_szLinkS.F : Cfg := ⟨fun _ => 0, fun r => match r with | 0 => [0, 1] | 1 => [1] | 2 => [1, 10] | 3 => [4] | 4 => [4] | _ => []⟩
def w_szLinkS.X : FX := ⟨12, [.tmp 4], w_szLinkS.F, w_szLinkS.x⟩

theorem w_szLinkS.ok {P : Program} {k : Nat} (hk : Has P k (w_szLinkS.X)) : C_szLinks P k := by
  intro c a hl h1 h2 n H
  refine S.ofX hk rfl fun hB fn hr => ?_
  unfold w_szLinkS.x
  repeat' (first
    | ((with_reducible refine S.go ?_); first | refine S.seq ?_ | refine S.skip ?_ | refine S.block ?_ | refine S.inBlock ?_ | refine S.exit rfl ?_ | refine S.regN ?_ | refine S.reg ?_ | refine S.drw hk.mo (by kernel_rfl) ?_ | (refine S.cond rfl (fun hc => ?_) (fun hc => ?_) <;> try simp only [HC] at hc) | refine S.retH hr rfl ?_ | refine S.finH hr rfl ?_ | (refine S.retK hr ?_; refine TRm7 ?_) | fail)
    | ((first | with_reducible refine Ns.go ?_ | with_reducible refine XOs.go ?_ | with_reducible refine XDs.go ?_ | with_reducible refine OK.go ?_); (first | refine TTm7 ?_ | (apply Ns.sc ⟨rfl, rfl⟩ rfl; intro hg) | (refine OK.tr ?_; refine TTm7 ?_)); (try simp only [HC] at hg))
    | with_reducible exact rfl | exact ⟨rfl, rfl, rfl⟩
    | ((with_reducible refine Gd.go ?_); refine Gd.on (fun hg => ?_) (fun hg => ?_) <;> refine TGm7 ?_ <;> (try simp only [HC] at hg))
    | ((with_reducible refine Fin.go ?_); first | (refine Fin.p ?_; first | exact FT | (try refine TTm7 ?_; try simp only [LF])) | refine Fin.a0 ?_ | refine Fin.a ?_ | refine Fin.ni ?_ | refine Fin.v ?_ ?_ | refine Fin.r ?_ ?_ | exact Fin.th | (refine Fin.t ?_; try simp only [AV.sl.injEq]))
    | (refine And.go ?_; refine AndI ?_)
    | fail)
  all_goals (rw [szN]; split <;> first | omega | rfl)
def C_szCand (P : Program) (k : Nat) : Prop := ∀ (c : List Link) (a : Int), c.length ≤ 9223372036854775807 → -1 ≤ a → a ≤ 1048576 → RunsF P k [.agg [.sl (enc c)], .int .i64 a] (.int .i64 (szN c.length a))
/-- laws.szCandidate -/
def w_szCandidate.x (c_w_szLinkS : Nat) : XCode :=
  (.seq
    (.reg [⟨(some 2), .boxF, [.t 0], none⟩,
      ⟨(some 4), .mv, [.k (.int .i64 0)], none⟩] [1, 2])
    (.seq
      (.reg [⟨(some 5), (.fldA 0), [.t 2], none⟩,
        ⟨(some 6), (.ld none), [.t 5], none⟩,
        ⟨(some 7), .mv, [.t 1], none⟩,
        ⟨(some 8), .call, [.k (.fn c_w_szLinkS []), .t 6, .t 7], none⟩,
        ⟨(some 1), .mv, [.t 8], none⟩] [1])
      (.seq
        (.seq
          (.reg [⟨(some 9), .mv, [.t 1], none⟩,
            ⟨(some 10), (.bin .lss), [.t 9, .k (.int .i64 0)], none⟩] [1, 10])
          (.cond (.t 10)
            (.seq
              (.reg [⟨(some 4), .mv, [.k (.int .i64 (-1))], none⟩] [4])
              .ret)
            .skip))
        (.seq
          (.reg [⟨(some 11), .mv, [.t 1], none⟩,
            ⟨(some 4), .mv, [.t 11], none⟩] [4])
          .ret))))
def w_szCandidate.F : Cfg := ⟨fun _ => 0, fun r => match r with | 0 => [1, 2] | 1 => [1] | 2 => [1, 10] | 3 => [4] | 4 => [4] | _ => []⟩
def w_szCandidate.X (c_w_szLinkS : Nat) : FX := ⟨12, [.tmp 4], w_szCandidate.F, w_szCandidate.x c_w_szLinkS⟩

theorem w_szCandidate.ok {P : Program} {k c_w_szLinkS : Nat} (hk : Has P k (w_szCandidate.X c_w_szLinkS)) (h1 : C_szLinks P c_w_szLinkS) : C_szCand P k := by
  intro c a hl ha1 ha2 n H
  refine S.ofX hk rfl fun hB fn hr => ?_
  unfold w_szCandidate.x
  repeat' (first
    | ((with_reducible refine S.go ?_); first | refine S.seq ?_ | refine S.skip ?_ | refine S.block ?_ | refine S.inBlock ?_ | refine S.exit rfl ?_ | refine S.regN ?_ | refine S.reg ?_ | refine S.drw hk.mo (by kernel_rfl) ?_ | (refine S.cond rfl (fun hc => ?_) (fun hc => ?_) <;> try simp only [HC] at hc) | refine S.retH hr rfl ?_ | refine S.finH hr rfl ?_ | (refine S.retK hr ?_; refine TRm7 ?_) | fail)
    | ((first | with_reducible refine Ns.go ?_ | with_reducible refine XOs.go ?_ | with_reducible refine XDs.go ?_ | with_reducible refine OK.go ?_); (first | refine TTm7 ?_ | (apply Ns.sc ⟨rfl, rfl⟩ rfl; intro hg) | (refine OK.tr ?_; refine TTm7 ?_)); (try simp only [HC] at hg))
    | with_reducible exact rfl | exact ⟨rfl, rfl, rfl⟩
    | ((with_reducible refine RunsT.go ?_); first | refine RunsF.apf (h1 c a hl ha1 ha2) rfl ?_ | fail)
    | ((with_reducible refine RunsD.go ?_); first | refine RunsF.apd (h1 c a hl ha1 ha2) rfl ?_ | fail)
    | ((with_reducible refine Gd.go ?_); refine Gd.on (fun hg => ?_) (fun hg => ?_) <;> refine TGm7 ?_ <;> (try simp only [HC] at hg))
    | ((with_reducible refine Fin.go ?_); first | (refine Fin.p ?_; first | exact FT | (try refine TTm7 ?_; try simp only [LF])) | refine Fin.a0 ?_ | refine Fin.a ?_ | refine Fin.ni ?_ | refine Fin.v ?_ ?_ | refine Fin.r ?_ ?_ | exact Fin.th | (refine Fin.t ?_; try simp only [AV.sl.injEq]))
    | (refine And.go ?_; refine AndI ?_)
    | fail)
  all_goals (unfold szN at *; split at * <;> first | omega | rfl)
def O_links (P : Program) (k : Nat) : Prop := ∀ (c : List Link), c.length ≤ 4294967296 → RunsO P k [.sl (enc c)] (.sl (enc c))
/-- laws.toLinkS -/
def w_toLinkS.x (c_w_toLink : Nat) : XCode :=
  (.seq
    (.reg [⟨(some 2), .mv, [.k (.nilsl)], none⟩] [0])
    (.seq
      (.reg [⟨(some 5), .mv, [.t 0], none⟩,
        ⟨(some 6), .lenL, [.t 5], none⟩,
        ⟨(some 7), (.mks 2 2 2 [.int .u8 0, .int .u8 0]), [.t 6, .t 6], none⟩,
        ⟨(some 3), .mv, [.t 7], none⟩] [0, 3])
      (.seq
        (.seq
          (.reg [⟨(some 4), .mv, [.k (.int .i64 0)], none⟩] [0, 3, 4])
          (.block 0
            (.loop
              (.seq
                (.seq
                  (.reg [⟨(some 8), .mv, [.t 4], none⟩,
                    ⟨(some 9), .mv, [.t 0], none⟩,
                    ⟨(some 10), .lenL, [.t 9], none⟩,
                    ⟨(some 11), (.bin .lss), [.t 8, .t 10], none⟩] [0, 3, 4, 11])
                  (.cond (.t 11)
                    .skip
                    (.exit 0)))
                (.seq
                  (.block 1
                    (.reg [⟨(some 14), .mv, [.t 3], none⟩,
                      ⟨(some 15), .mv, [.t 4], none⟩,
                      ⟨(some 16), .mv, [.t 0], none⟩,
                      ⟨(some 17), .mv, [.t 4], none⟩,
                      ⟨(some 18), (.idxA 2), [.t 16, .t 17], none⟩,
                      ⟨(some 19), (.ld (some 2)), [.t 18], none⟩,
                      ⟨(some 20), .call, [.k (.fn c_w_toLink []), .t 19], none⟩,
                      ⟨(some 21), (.idxA 2), [.t 14, .t 15], none⟩,
                      ⟨none, (.st (some 2)), [.t 21, .t 20], none⟩] [0, 3, 4]))
                  (.reg [⟨(some 12), .mv, [.t 4], none⟩,
                    ⟨(some 13), (.bin .add), [.t 12, .k (.int .i64 1)], none⟩,
                    ⟨(some 4), .mv, [.t 13], none⟩] [0, 3, 4]))))))
        (.seq
          (.reg [⟨(some 22), .mv, [.t 3], none⟩,
            ⟨(some 2), .mv, [.t 22], none⟩] [2])
          .ret))))
def w_toLinkS.F : Cfg := ⟨fun d => if d = 7 then 2 else 0, fun r => match r with | 0 => [0] | 1 => [0, 3] | 2 => [0, 3, 4] | 3 => [0, 3, 4, 11] | 4 => [0, 3, 4] | 5 => [0, 3, 4] | 6 => [2] | _ => []⟩
def w_toLinkS.X (c_w_toLink : Nat) : FX := ⟨23, [.tmp 2], w_toLinkS.F, w_toLinkS.x c_w_toLink⟩

theorem w_toLinkS.ok {P : Program} {k c_w_toLink : Nat} (hk : Has P k (w_toLinkS.X c_w_toLink)) (h1 : C_linkV P c_w_toLink) : O_links P k := by
  intro l hl n H
  refine S.ofX hk rfl fun hB fn hr => ?_
  unfold w_toLinkS.x
  repeat' (first
    | ((with_reducible refine S.go ?_); first | refine S.seq ?_ | refine S.skip ?_ | refine S.block ?_ | refine S.inBlock ?_ | refine S.exit rfl ?_ | refine S.regN ?_ | refine S.reg ?_ | refine S.drw hk.mo (by kernel_rfl) ?_ | (refine S.cond rfl (fun hc => ?_) (fun hc => ?_) <;> try simp only [HC] at hc) | refine S.retH hr rfl ?_ | refine S.finH hr rfl ?_ | (refine S.retK hr ?_; refine TRm7 ?_) | fail)
    | ((first | with_reducible refine Ns.go ?_ | with_reducible refine XOs.go ?_ | with_reducible refine XDs.go ?_ | with_reducible refine OK.go ?_); (first | refine TTm7 ?_ | (apply Ns.sc ⟨rfl, rfl⟩ rfl; intro hg) | (refine OK.tr ?_; refine TTm7 ?_)); (try simp only [HC] at hg))
    | with_reducible exact rfl | exact ⟨rfl, rfl, rfl⟩
    | ((with_reducible refine Gd.go ?_); refine Gd.on (fun hg => ?_) (fun hg => ?_) <;> refine TGm7 ?_ <;> (try simp only [HC] at hg))
    | ((with_reducible refine Fin.go ?_); first | (refine Fin.p ?_; first | exact FT | (try refine TTm7 ?_; try simp only [LF])) | refine Fin.a0 ?_ | refine Fin.a ?_ | refine Fin.ni ?_ | refine Fin.v ?_ ?_ | refine Fin.r ?_ ?_ | exact Fin.th | (refine Fin.t ?_; try simp only [AV.sl.injEq]))
    | (refine And.go ?_; refine AndI ?_)
    | fail)
  refine S.loopV (σ := Nat × (List Link)) [0, 3, 4] (fun s => [(3, .ref n 2 0 l.length), (4, .int .i64 (s.1 : Int))]) (fun s => s.1 ≤ l.length ∧ s.2.length = l.length ∧ s.2.take s.1 = l.take s.1) (fun s => n + 1) (fun s => (n, .own (enc s.2).flatten) :: H) (fun s => l.length - s.1) (0, (List.replicate l.length (0, 0))) (⟨by omega, ?_, ?_⟩) ?_
  · first | rfl | omega | (simp; done) | (simp; omega) | skip
  · first | rfl | omega | (simp; done) | (simp; omega) | skip
  rintro ⟨i, out⟩ ⟨hi1, hi2, hi3⟩ ih
  try dsimp only at hi1 hi2 hi3
  repeat' (first
    | ((with_reducible refine S.go ?_); first | refine S.seq ?_ | refine S.skip ?_ | refine S.block ?_ | refine S.inBlock ?_ | refine S.exit rfl ?_ | refine S.regN ?_ | refine S.reg ?_ | refine S.drw hk.mo (by kernel_rfl) ?_ | refine S.ag (ih ((i + 1, _)) ?_ ?_) | (refine S.cond rfl (fun hc => ?_) (fun hc => ?_) <;> try simp only [HC] at hc) | refine S.retH hr rfl ?_ | refine S.finH hr rfl ?_ | (refine S.retK hr ?_; refine TRm7 ?_) | fail)
    | ((first | with_reducible refine Ns.go ?_ | with_reducible refine XOs.go ?_ | with_reducible refine XDs.go ?_ | with_reducible refine OK.go ?_); (first | refine TTm7 ?_ | (apply Ns.sc ⟨rfl, rfl⟩ rfl; intro hg) | (refine OK.tr ?_; refine TTm7 ?_)); (try simp only [HC] at hg))
    | with_reducible exact rfl | exact ⟨rfl, rfl, rfl⟩
    | ((with_reducible refine RunsT.go ?_); first | refine RunsF.apf (h1 _) rfl ?_ | fail)
    | ((with_reducible refine RunsD.go ?_); first | refine RunsF.apd (h1 _) rfl ?_ | fail)
    | ((with_reducible refine Gd.go ?_); refine Gd.on (fun hg => ?_) (fun hg => ?_) <;> refine TGm7 ?_ <;> (try simp only [HC] at hg))
    | ((with_reducible refine Fin.go ?_); first | (refine Fin.p ?_; first | exact FT | (try refine TTm7 ?_; try simp only [LF])) | refine Fin.a0 ?_ | refine Fin.a ?_ | refine Fin.ni ?_ | refine Fin.v ?_ ?_ | refine Fin.r ?_ ?_ | exact Fin.th | (refine Fin.t ?_; try simp only [AV.sl.injEq]))
    | (refine And.go ?_; refine AndI ?_)
    | fail)
  all_goals (try clear ih)
  all_goals (try dsimp only)
  all_goals (repeat' apply And.intro)
  all_goals first | omega | (simp only [ZL]; omega) | skip
  all_goals (try clear hr hk hB)
  all_goals first | (rw [List.length_set]; exact hi2) | (exact set_next hi3 (by omega)) | (rw [← List.take_of_length_le (l := out) (i := i) (by omega), hi3, List.take_of_length_le (by omega)])
def O_cand (P : Program) (k : Nat) : Prop := ∀ (c : List Link), c.length ≤ 4294967296 → RunsO P k [.agg [.sl (enc c)]] (.agg [.sl (enc c)])
/-- laws.toCandidate -/
def w_toCandidate.x (c_w_toLinkS : Nat) : XCode :=
  (.seq
    (.reg [⟨(some 1), .boxF, [.t 0], none⟩,
      ⟨(some 2), (.alloc [.nilsl]), [], none⟩] [1, 2])
    (.seq
      (.reg [⟨(some 3), (.alloc [.nilsl]), [], none⟩] [1, 2, 3])
      (.seq
        (.reg [⟨(some 4), (.fldA 0), [.t 1], none⟩,
          ⟨(some 5), (.ld none), [.t 4], none⟩,
          ⟨(some 6), .call, [.k (.fn c_w_toLinkS []), .t 5], none⟩,
          ⟨(some 7), (.fldA 0), [.t 3], none⟩,
          ⟨none, (.st none), [.t 7, .t 6], none⟩] [2, 3])
        (.seq
          (.reg [⟨(some 8), (.ld (some 1)), [.t 3], none⟩,
            ⟨none, (.st (some 1)), [.t 2, .t 8], none⟩] [2])
          .ret))))
def w_toCandidate.F : Cfg := ⟨fun _ => 0, fun r => match r with | 0 => [1, 2] | 1 => [1, 2, 3] | 2 => [2, 3] | 3 => [2] | _ => []⟩
def w_toCandidate.X (c_w_toLinkS : Nat) : FX := ⟨9, [.cell 2 (some 1)], w_toCandidate.F, w_toCandidate.x c_w_toLinkS⟩

theorem w_toCandidate.ok {P : Program} {k c_w_toLinkS : Nat} (hk : Has P k (w_toCandidate.X c_w_toLinkS)) (h1 : O_links P c_w_toLinkS) : O_cand P k := by
  intro c hl n H
  have k1 := h1 c hl
  refine S.ofP hk rfl (hp1 H) fun hB fn hr => ?_
  unfold w_toCandidate.x
  repeat' (first
    | ((with_reducible refine S.go ?_); first | refine S.seq ?_ | refine S.skip ?_ | refine S.block ?_ | refine S.inBlock ?_ | refine S.exit rfl ?_ | refine S.regN ?_ | refine S.reg ?_ | refine S.drw hk.mo (by kernel_rfl) ?_ | (refine S.cond rfl (fun hc => ?_) (fun hc => ?_) <;> try simp only [HC] at hc) | refine S.retH hr rfl ?_ | refine S.finH hr rfl ?_ | (refine S.retK hr ?_; refine TRm7 ?_) | fail)
    | ((first | with_reducible refine Ns.go ?_ | with_reducible refine XOs.go ?_ | with_reducible refine XDs.go ?_ | with_reducible refine OK.go ?_); (first | refine TTm7 ?_ | (apply Ns.sc ⟨rfl, rfl⟩ rfl; intro hg) | (refine OK.tr ?_; refine TTm7 ?_)); (try simp only [HC] at hg))
    | with_reducible exact rfl | exact ⟨rfl, rfl, rfl⟩
    | ((with_reducible refine RunsT.go ?_); first | (refine RunsO.l ( k1) (fun v n2 N hle hf ht => ?_); (first | (obtain ⟨c1, rfl⟩ := ht.agg1) | (obtain ⟨c1, c2, rfl⟩ := ht.agg2) | (obtain ⟨c1, c2, c3, rfl⟩ := ht.agg3) | skip)) | fail)
    | ((with_reducible refine Gd.go ?_); refine Gd.on (fun hg => ?_) (fun hg => ?_) <;> refine TGm7 ?_ <;> (try simp only [HC] at hg))
    | ((with_reducible refine Fin.go ?_); first | (refine Fin.p ?_; first | exact FT | (try refine TTm7 ?_; try simp only [LF])) | refine Fin.a0 ?_ | refine Fin.a ?_ | refine Fin.ni ?_ | refine Fin.v ?_ ?_ | refine Fin.r ?_ ?_ | exact Fin.th | (refine Fin.t ?_; try simp only [AV.sl.injEq]))
    | (refine And.go ?_; refine AndI ?_)
    | fail)
def C_eqLink (P : Program) (k : Nat) : Prop := ∀ x y : Link, RunsF P k [.agg (Dat.row x), .agg (Dat.row y)] (.bool (x == y))
/-- laws.eqLink -/
def w_eqLink.x : XCode :=
  (.seq
    (.reg [⟨(some 2), .boxF, [.t 0], none⟩,
      ⟨(some 3), .boxF, [.t 1], none⟩,
      ⟨(some 4), .mv, [.k (.bool false)], none⟩] [2, 3])
    (.seq
      (.seq
        (.reg [⟨(some 5), (.fldA 0), [.t 2], none⟩,
          ⟨(some 6), (.ld none), [.t 5], none⟩,
          ⟨(some 7), (.fldA 0), [.t 3], none⟩,
          ⟨(some 8), (.ld none), [.t 7], none⟩,
          ⟨(some 9), (.bin .neq), [.t 6, .t 8], none⟩] [2, 3, 9])
        (.cond (.t 9)
          (.seq
            (.reg [⟨(some 4), .mv, [.k (.bool false)], none⟩] [4])
            .ret)
          .skip))
      (.seq
        (.seq
          (.reg [⟨(some 10), (.fldA 1), [.t 2], none⟩,
            ⟨(some 11), (.ld none), [.t 10], none⟩,
            ⟨(some 12), (.fldA 1), [.t 3], none⟩,
            ⟨(some 13), (.ld none), [.t 12], none⟩,
            ⟨(some 14), (.bin .neq), [.t 11, .t 13], none⟩] [14])
          (.cond (.t 14)
            (.seq
              (.reg [⟨(some 4), .mv, [.k (.bool false)], none⟩] [4])
              .ret)
            .skip))
        (.seq
          (.reg [⟨(some 4), .mv, [.k (.bool true)], none⟩] [4])
          .ret))))
def w_eqLink.F : Cfg := ⟨fun _ => 0, fun r => match r with | 0 => [2, 3] | 1 => [2, 3, 9] | 2 => [4] | 3 => [14] | 4 => [4] | 5 => [4] | _ => []⟩
def w_eqLink.X : FX := ⟨15, [.tmp 4], w_eqLink.F, w_eqLink.x⟩

theorem w_eqLink.ok {P : Program} {k : Nat} (hk : Has P k (w_eqLink.X)) : C_eqLink P k := by
  intro x y n H
  obtain ⟨a, b⟩ := x
  obtain ⟨c, d⟩ := y
  refine S.ofX hk rfl fun hB fn hr => ?_
  unfold w_eqLink.x
  repeat' (first
    | ((with_reducible refine S.go ?_); first | refine S.seq ?_ | refine S.skip ?_ | refine S.block ?_ | refine S.inBlock ?_ | refine S.exit rfl ?_ | refine S.regN ?_ | refine S.reg ?_ | refine S.drw hk.mo (by kernel_rfl) ?_ | (refine S.cond rfl (fun hc => ?_) (fun hc => ?_) <;> try simp only [HC] at hc) | refine S.retH hr rfl ?_ | refine S.finH hr rfl ?_ | (refine S.retK hr ?_; refine TRm7 ?_) | fail)
    | ((first | with_reducible refine Ns.go ?_ | with_reducible refine XOs.go ?_ | with_reducible refine XDs.go ?_ | with_reducible refine OK.go ?_); (first | refine TTm7 ?_ | (apply Ns.sc ⟨rfl, rfl⟩ rfl; intro hg) | (refine OK.tr ?_; refine TTm7 ?_)); (try simp only [HC] at hg))
    | with_reducible exact rfl | exact ⟨rfl, rfl, rfl⟩
    | ((with_reducible refine Gd.go ?_); refine Gd.on (fun hg => ?_) (fun hg => ?_) <;> refine TGm7 ?_ <;> (try simp only [HC] at hg))
    | ((with_reducible refine Fin.go ?_); first | (refine Fin.p ?_; first | exact FT | (try refine TTm7 ?_; try simp only [LF])) | refine Fin.a0 ?_ | refine Fin.a ?_ | refine Fin.ni ?_ | refine Fin.v ?_ ?_ | refine Fin.r ?_ ?_ | exact Fin.th | (refine Fin.t ?_; try simp only [AV.sl.injEq]))
    | (refine And.go ?_; refine AndI ?_)
    | fail)
  all_goals (try clear hr hk hB)
  all_goals (rw [Bool.eq_iff_iff]; simp_all)
def C_eqLinks (P : Program) (k : Nat) : Prop := ∀ (l m : List Link), l.length ≤ 4294967296 → m.length ≤ 4294967296 → RunsF P k [.sl (enc l), .sl (enc m)] (.bool (l == m))
/-- laws.eqLinkS -/
def w_eqLinkS.x (c_w_eqLink : Nat) : XCode :=
  (.seq
    (.reg [⟨(some 4), .mv, [.k (.bool false)], none⟩] [0, 1])
    (.seq
      (.seq
        (.reg [⟨(some 6), .mv, [.t 0], none⟩,
          ⟨(some 7), .lenL, [.t 6], none⟩,
          ⟨(some 8), .mv, [.t 1], none⟩,
          ⟨(some 9), .lenL, [.t 8], none⟩,
          ⟨(some 10), (.bin .neq), [.t 7, .t 9], none⟩] [0, 1, 10])
        (.cond (.t 10)
          (.seq
            (.reg [⟨(some 4), .mv, [.k (.bool false)], none⟩] [4])
            .ret)
          .skip))
      (.seq
        (.seq
          (.reg [⟨(some 5), .mv, [.k (.int .i64 0)], none⟩] [0, 1, 5])
          (.block 0
            (.loop
              (.seq
                (.seq
                  (.reg [⟨(some 11), .mv, [.t 5], none⟩,
                    ⟨(some 12), .mv, [.t 0], none⟩,
                    ⟨(some 13), .lenL, [.t 12], none⟩,
                    ⟨(some 14), (.bin .lss), [.t 11, .t 13], none⟩] [0, 1, 5, 14])
                  (.cond (.t 14)
                    .skip
                    (.exit 0)))
                (.seq
                  (.block 1
                    (.seq
                      (.drw [(⟨(some 17), .mv, [.t 0], none⟩, []),
                        (⟨(some 18), .mv, [.t 5], none⟩, []),
                        (⟨(some 19), (.idxA 2), [.t 17, .t 18], none⟩, [0, 1]),
                        (⟨(some 20), (.ld (some 2)), [.t 19], none⟩, [2]),
                        (⟨(some 21), .mv, [.t 1], none⟩, []),
                        (⟨(some 22), .mv, [.t 5], none⟩, []),
                        (⟨(some 23), (.idxA 2), [.t 21, .t 22], none⟩, [4, 5]),
                        (⟨(some 24), (.ld (some 2)), [.t 23], none⟩, [6]),
                        (⟨(some 25), .call, [.k (.fn c_w_eqLink []), .t 20, .t 24], none⟩, [3, 7]),
                        (⟨(some 26), (.un .not), [.t 25], none⟩, [8])] [0, 1, 5, 26] [0, 0, 0, 0, 0, 0, 0, 0, 0, 0])
                      (.cond (.t 26)
                        (.seq
                          (.reg [⟨(some 4), .mv, [.k (.bool false)], none⟩] [4])
                          .ret)
                        .skip)))
                  (.reg [⟨(some 15), .mv, [.t 5], none⟩,
                    ⟨(some 16), (.bin .add), [.t 15, .k (.int .i64 1)], none⟩,
                    ⟨(some 5), .mv, [.t 16], none⟩] [0, 1, 5]))))))
        (.seq
          (.reg [⟨(some 4), .mv, [.k (.bool true)], none⟩] [4])
          .ret))))
def w_eqLinkS.F : Cfg := ⟨fun _ => 0, fun r => match r with | 0 => [0, 1] | 1 => [0, 1, 10] | 2 => [4] | 3 => [0, 1, 5] | 4 => [0, 1, 5, 14] | 5 => [0, 1, 5] | 6 => [0, 1, 5, 26] | 7 => [4] | 8 => [4] | 1000006 => [0, 0, 0, 0, 0, 0, 0, 0, 0, 0] | _ => []⟩
def w_eqLinkS.X (c_w_eqLink : Nat) : FX := ⟨27, [.tmp 4], w_eqLinkS.F, w_eqLinkS.x c_w_eqLink⟩

theorem w_eqLinkS.ok {P : Program} {k c_w_eqLink : Nat} (hk : Has P k (w_eqLinkS.X c_w_eqLink)) (h1 : C_eqLink P c_w_eqLink) : C_eqLinks P k := by
  intro l m hl hm n H
  refine S.ofX hk rfl fun hB fn hr => ?_
  unfold w_eqLinkS.x
  repeat' (first
    | ((with_reducible refine S.go ?_); first | refine S.seq ?_ | refine S.skip ?_ | refine S.block ?_ | refine S.inBlock ?_ | refine S.exit rfl ?_ | refine S.regN ?_ | refine S.reg ?_ | refine S.drw hk.mo (by kernel_rfl) ?_ | (refine S.cond rfl (fun hc => ?_) (fun hc => ?_) <;> try simp only [HC] at hc) | refine S.retH hr rfl ?_ | refine S.finH hr rfl ?_ | (refine S.retK hr ?_; refine TRm7 ?_) | fail)
    | ((first | with_reducible refine Ns.go ?_ | with_reducible refine XOs.go ?_ | with_reducible refine XDs.go ?_ | with_reducible refine OK.go ?_); (first | refine TTm7 ?_ | (apply Ns.sc ⟨rfl, rfl⟩ rfl; intro hg) | (refine OK.tr ?_; refine TTm7 ?_)); (try simp only [HC] at hg))
    | with_reducible exact rfl | exact ⟨rfl, rfl, rfl⟩
    | ((with_reducible refine Gd.go ?_); refine Gd.on (fun hg => ?_) (fun hg => ?_) <;> refine TGm7 ?_ <;> (try simp only [HC] at hg))
    | ((with_reducible refine Fin.go ?_); first | (refine Fin.p ?_; first | exact FT | (try refine TTm7 ?_; try simp only [LF])) | refine Fin.a0 ?_ | refine Fin.a ?_ | refine Fin.ni ?_ | refine Fin.v ?_ ?_ | refine Fin.r ?_ ?_ | exact Fin.th | (refine Fin.t ?_; try simp only [AV.sl.injEq]))
    | (refine And.go ?_; refine AndI ?_)
    | fail)
  · exact (neql (by omega)).symm
  refine S.loopV (σ := Nat) [0, 1, 5] (fun s => [(5, .int .i64 (s : Int))]) (fun s => s ≤ l.length ∧ ∀ j, j < s → l.getD j default = m.getD j default) (fun s => n) (fun s => H) (fun s => l.length - s) (0) (⟨by omega, ?_⟩) ?_
  · first | rfl | omega | (simp; done) | (simp; omega) | skip
  rintro i ⟨hi1, hi2⟩ ih
  try dsimp only at hi1 hi2
  repeat' (first
    | ((with_reducible refine S.go ?_); first | refine S.seq ?_ | refine S.skip ?_ | refine S.block ?_ | refine S.inBlock ?_ | refine S.exit rfl ?_ | refine S.regN ?_ | refine S.reg ?_ | refine S.drw hk.mo (by kernel_rfl) ?_ | refine S.ag (ih (i + 1) ?_ ?_) | (refine S.cond rfl (fun hc => ?_) (fun hc => ?_) <;> try simp only [HC] at hc) | refine S.retH hr rfl ?_ | refine S.finH hr rfl ?_ | (refine S.retK hr ?_; refine TRm7 ?_) | fail)
    | ((first | with_reducible refine Ns.go ?_ | with_reducible refine XOs.go ?_ | with_reducible refine XDs.go ?_ | with_reducible refine OK.go ?_); (first | refine TTm7 ?_ | (apply Ns.sc ⟨rfl, rfl⟩ rfl; intro hg) | (refine OK.tr ?_; refine TTm7 ?_)); (try simp only [HC] at hg))
    | with_reducible exact rfl | exact ⟨rfl, rfl, rfl⟩
    | ((with_reducible refine RunsT.go ?_); first | refine RunsF.apf (h1 (l.getD i default) (m.getD i default)) rfl ?_ | fail)
    | ((with_reducible refine RunsD.go ?_); first | refine RunsF.apd (h1 (l.getD i default) (m.getD i default)) rfl ?_ | fail)
    | ((with_reducible refine Gd.go ?_); refine Gd.on (fun hg => ?_) (fun hg => ?_) <;> refine TGm7 ?_ <;> (try simp only [HC] at hg))
    | ((with_reducible refine Fin.go ?_); first | (refine Fin.p ?_; first | exact FT | (try refine TTm7 ?_; try simp only [LF])) | refine Fin.a0 ?_ | refine Fin.a ?_ | refine Fin.ni ?_ | refine Fin.v ?_ ?_ | refine Fin.r ?_ ?_ | exact Fin.th | (refine Fin.t ?_; try simp only [AV.sl.injEq]))
    | (refine And.go ?_; refine AndI ?_)
    | fail)
  all_goals (try clear ih)
  all_goals (try dsimp only)
  all_goals (repeat' apply And.intro)
  all_goals first | omega | (simp only [ZL]; omega) | skip
  all_goals (try clear hr hk hB)
  all_goals first | (exact (neqg hc).symm) | (exact (eqg (by omega) (fun j hj => hi2 j (by omega))).symm) | (intro j hj; by_cases hji : j = i; (subst hji; exact hc); (exact hi2 j (by omega)))
def C_eqCand (P : Program) (k : Nat) : Prop := ∀ (l m : List Link), l.length ≤ 4294967296 → m.length ≤ 4294967296 → RunsF P k [.agg [.sl (enc l)], .agg [.sl (enc m)]] (.bool (l == m))
/-- laws.eqCandidate -/
def w_eqCandidate.x (c_w_eqLinkS : Nat) : XCode :=
  (.seq
    (.reg [⟨(some 2), .boxF, [.t 0], none⟩,
      ⟨(some 3), .boxF, [.t 1], none⟩,
      ⟨(some 4), .mv, [.k (.bool false)], none⟩] [2, 3])
    (.seq
      (.seq
        (.reg [⟨(some 5), (.fldA 0), [.t 2], none⟩,
          ⟨(some 6), (.ld none), [.t 5], none⟩,
          ⟨(some 7), (.fldA 0), [.t 3], none⟩,
          ⟨(some 8), (.ld none), [.t 7], none⟩,
          ⟨(some 9), .call, [.k (.fn c_w_eqLinkS []), .t 6, .t 8], none⟩,
          ⟨(some 10), (.un .not), [.t 9], none⟩] [10])
        (.cond (.t 10)
          (.seq
            (.reg [⟨(some 4), .mv, [.k (.bool false)], none⟩] [4])
            .ret)
          .skip))
      (.seq
        (.reg [⟨(some 4), .mv, [.k (.bool true)], none⟩] [4])
        .ret)))
def w_eqCandidate.F : Cfg := ⟨fun _ => 0, fun r => match r with | 0 => [2, 3] | 1 => [10] | 2 => [4] | 3 => [4] | _ => []⟩
def w_eqCandidate.X (c_w_eqLinkS : Nat) : FX := ⟨11, [.tmp 4], w_eqCandidate.F, w_eqCandidate.x c_w_eqLinkS⟩

theorem w_eqCandidate.ok {P : Program} {k c_w_eqLinkS : Nat} (hk : Has P k (w_eqCandidate.X c_w_eqLinkS)) (h1 : C_eqLinks P c_w_eqLinkS) : C_eqCand P k := by
  intro l m hl hm n H
  refine S.ofX hk rfl fun hB fn hr => ?_
  unfold w_eqCandidate.x
  repeat' (first
    | ((with_reducible refine S.go ?_); first | refine S.seq ?_ | refine S.skip ?_ | refine S.block ?_ | refine S.inBlock ?_ | refine S.exit rfl ?_ | refine S.regN ?_ | refine S.reg ?_ | refine S.drw hk.mo (by kernel_rfl) ?_ | (refine S.cond rfl (fun hc => ?_) (fun hc => ?_) <;> try simp only [HC] at hc) | refine S.retH hr rfl ?_ | refine S.finH hr rfl ?_ | (refine S.retK hr ?_; refine TRm7 ?_) | fail)
    | ((first | with_reducible refine Ns.go ?_ | with_reducible refine XOs.go ?_ | with_reducible refine XDs.go ?_ | with_reducible refine OK.go ?_); (first | refine TTm7 ?_ | (apply Ns.sc ⟨rfl, rfl⟩ rfl; intro hg) | (refine OK.tr ?_; refine TTm7 ?_)); (try simp only [HC] at hg))
    | with_reducible exact rfl | exact ⟨rfl, rfl, rfl⟩
    | ((with_reducible refine RunsT.go ?_); first | refine RunsF.apf (h1 l m hl hm) rfl ?_ | fail)
    | ((with_reducible refine RunsD.go ?_); first | refine RunsF.apd (h1 l m hl hm) rfl ?_ | fail)
    | ((with_reducible refine Gd.go ?_); refine Gd.on (fun hg => ?_) (fun hg => ?_) <;> refine TGm7 ?_ <;> (try simp only [HC] at hg))
    | ((with_reducible refine Fin.go ?_); first | (refine Fin.p ?_; first | exact FT | (try refine TTm7 ?_; try simp only [LF])) | refine Fin.a0 ?_ | refine Fin.a ?_ | refine Fin.ni ?_ | refine Fin.v ?_ ?_ | refine Fin.r ?_ ?_ | exact Fin.th | (refine Fin.t ?_; try simp only [AV.sl.injEq]))
    | (refine And.go ?_; refine AndI ?_)
    | fail)
  all_goals (try clear hr hk hB)
  all_goals (rw [Bool.eq_iff_iff]; simp_all)
def marksL (k : Int) (len : Nat) : List Link := (List.range len).map fun (j : Nat) => (wb (k + 2 * j), wb (k + 2 * j + 1))
theorem marksL_len (k : Int) (len : Nat) : (marksL k len).length = len := by simp [marksL]
theorem marksL_at (k : Int) (len i : Nat) (h : i < len) : (marksL k len).getD i default = (wb (k + 2 * i), wb (k + 2 * i + 1)) := by simp [marksL, List.getD_eq_getElem?_getD, h]
theorem getD_set2 {l : List Link} {i : Nat} {x : Link} (hi : i < l.length) : (l.set i x).getD i default = x := by
  simp [List.getD_eq_getElem?_getD, List.getElem?_set, hi]
def C_markL1 (P : Program) (f : Nat) : Prop := ∀ (l : List Link), l.length ≤ 4294967296 → ∀ (k : Int) (n : Nat) (H : Heap) (id : Nat), 0 ≤ k → k ≤ 4294967296 → hget H id = some (.own (enc l).flatten) →
  Runs P f [.ref id 2 0 l.length, .int .i64 k] n H fun r n' H' => r = .int .i64 (k + (2 * l.length : Nat)) ∧ n' = n ∧ H' = hset H id (.own (enc (marksL k l.length)).flatten)
/-- laws.markLinkS -/
def w_markLinkS.x : XCode :=
  (.seq
    (.reg [⟨(some 4), .mv, [.k (.int .i64 0)], none⟩] [0, 1])
    (.seq
      (.seq
        (.reg [⟨(some 5), .mv, [.k (.int .i64 0)], none⟩] [0, 1, 5])
        (.block 0
          (.loop
            (.seq
              (.seq
                (.reg [⟨(some 6), .mv, [.t 5], none⟩,
                  ⟨(some 7), .mv, [.t 0], none⟩,
                  ⟨(some 8), .lenL, [.t 7], none⟩,
                  ⟨(some 9), (.bin .lss), [.t 6, .t 8], none⟩] [0, 1, 5, 9])
                (.cond (.t 9)
                  .skip
                  (.exit 0)))
              (.seq
                (.block 1
                  (.seq
                    (.reg [⟨(some 12), .mv, [.t 0], none⟩,
                      ⟨(some 13), .mv, [.t 5], none⟩,
                      ⟨(some 14), .mv, [.t 1], none⟩,
                      ⟨(some 15), (.cvI .u8), [.t 14], none⟩,
                      ⟨(some 16), (.idxA 2), [.t 12, .t 13], none⟩,
                      ⟨(some 17), (.fldA 0), [.t 16], none⟩,
                      ⟨none, (.st none), [.t 17, .t 15], none⟩] [0, 1, 5])
                    (.seq
                      (.reg [⟨(some 18), .mv, [.t 1], none⟩,
                        ⟨(some 19), (.bin .add), [.t 18, .k (.int .i64 1)], none⟩,
                        ⟨(some 1), .mv, [.t 19], none⟩] [0, 1, 5])
                      (.seq
                        (.reg [⟨(some 20), .mv, [.t 0], none⟩,
                          ⟨(some 21), .mv, [.t 5], none⟩,
                          ⟨(some 22), .mv, [.t 1], none⟩,
                          ⟨(some 23), (.cvI .u8), [.t 22], none⟩,
                          ⟨(some 24), (.idxA 2), [.t 20, .t 21], none⟩,
                          ⟨(some 25), (.fldA 1), [.t 24], none⟩,
                          ⟨none, (.st none), [.t 25, .t 23], none⟩] [0, 1, 5])
                        (.reg [⟨(some 26), .mv, [.t 1], none⟩,
                          ⟨(some 27), (.bin .add), [.t 26, .k (.int .i64 1)], none⟩,
                          ⟨(some 1), .mv, [.t 27], none⟩] [0, 1, 5])))))
                (.reg [⟨(some 10), .mv, [.t 5], none⟩,
                  ⟨(some 11), (.bin .add), [.t 10, .k (.int .i64 1)], none⟩,
                  ⟨(some 5), .mv, [.t 11], none⟩] [0, 1, 5]))))))
      (.seq
        (.reg [⟨(some 28), .mv, [.t 1], none⟩,
          ⟨(some 4), .mv, [.t 28], none⟩] [4])
        .ret)))
def w_markLinkS.F : Cfg := ⟨fun _ => 0, fun r => match r with | 0 => [0, 1] | 1 => [0, 1, 5] | 2 => [0, 1, 5, 9] | 3 => [0, 1, 5] | 4 => [0, 1, 5] | 5 => [0, 1, 5] | 6 => [0, 1, 5] | 7 => [0, 1, 5] | 8 => [4] | _ => []⟩
def w_markLinkS.X : FX := ⟨29, [.tmp 4], w_markLinkS.F, w_markLinkS.x⟩

theorem w_markLinkS.ok1 {P : Program} {k : Nat} (hk : Has P k (w_markLinkS.X)) : C_markL1 P k := by
  intro l hl k0 n H id hk0 hk1 hm
  have hgs := hget_hset hm
  refine S.ofX hk rfl fun hB fn hr => ?_
  unfold w_markLinkS.x
  repeat' (first
    | ((with_reducible refine S.go ?_); first | refine S.seq ?_ | refine S.skip ?_ | refine S.block ?_ | refine S.inBlock ?_ | refine S.exit rfl ?_ | refine S.regN ?_ | refine S.reg ?_ | refine S.drw hk.mo (by kernel_rfl) ?_ | (refine S.cond rfl (fun hc => ?_) (fun hc => ?_) <;> try simp only [HC] at hc) | refine S.retH hr rfl ?_ | refine S.finH hr rfl ?_ | (refine S.retK hr ?_; refine TRm7 ?_) | fail)
    | ((first | with_reducible refine Ns.go ?_ | with_reducible refine XOs.go ?_ | with_reducible refine XDs.go ?_ | with_reducible refine OK.go ?_); (first | refine TTm7 ?_ | (apply Ns.sc ⟨rfl, rfl⟩ rfl; intro hg) | (refine OK.tr ?_; refine TTm7 ?_)); (try simp only [HC] at hg))
    | with_reducible exact rfl | exact ⟨rfl, rfl, rfl⟩
    | ((with_reducible refine Gd.go ?_); refine Gd.on (fun hg => ?_) (fun hg => ?_) <;> refine TGm7 ?_ <;> (try simp only [HC] at hg))
    | ((with_reducible refine Fin.go ?_); first | (refine Fin.p ?_; first | exact FT | (try refine TTm7 ?_; try simp only [LF])) | refine Fin.a0 ?_ | refine Fin.a ?_ | refine Fin.ni ?_ | refine Fin.v ?_ ?_ | refine Fin.r ?_ ?_ | exact Fin.th | (refine Fin.t ?_; try simp only [AV.sl.injEq]))
    | (refine And.go ?_; refine AndI ?_)
    | fail)
  refine S.loopV (σ := Nat × Int × (List Link)) [0, 1, 5] (fun s => [(1, .int .i64 s.2.1), (5, .int .i64 (s.1 : Int))]) (fun s => s.1 ≤ l.length ∧ s.2.2.length = l.length ∧ s.2.1 = k0 + 2 * (s.1 : Int) ∧ s.2.2.take s.1 = (marksL k0 l.length).take s.1) (fun s => n) (fun s => hset H id (.own (enc s.2.2).flatten)) (fun s => l.length - s.1) (0, k0, l) (⟨by omega, ?_, ?_, ?_⟩) ?_
  · first | rfl | omega | (simp; done) | (simp; omega) | skip
  · first | rfl | omega | (simp; done) | (simp; omega) | skip
  · first | rfl | omega | (simp; done) | (simp; omega) | skip
  rintro ⟨i, j, out⟩ ⟨hi1, hi2, hi3, hi4⟩ ih
  try dsimp only at hi1 hi2 hi3 hi4
  repeat' (first
    | ((with_reducible refine S.go ?_); first | refine S.seq ?_ | refine S.skip ?_ | refine S.block ?_ | refine S.inBlock ?_ | refine S.exit rfl ?_ | refine S.regN ?_ | refine S.reg ?_ | refine S.drw hk.mo (by kernel_rfl) ?_ | refine S.ag (ih ((i + 1, _, _)) ?_ ?_) | (refine S.cond rfl (fun hc => ?_) (fun hc => ?_) <;> try simp only [HC] at hc) | refine S.retH hr rfl ?_ | refine S.finH hr rfl ?_ | (refine S.retK hr ?_; refine TRm7 ?_) | fail)
    | ((first | with_reducible refine Ns.go ?_ | with_reducible refine XOs.go ?_ | with_reducible refine XDs.go ?_ | with_reducible refine OK.go ?_); (first | refine TTm7 ?_ | (apply Ns.sc ⟨rfl, rfl⟩ rfl; intro hg) | (refine OK.tr ?_; refine TTm7 ?_)); (try simp only [HC] at hg))
    | with_reducible exact rfl | exact ⟨rfl, rfl, rfl⟩
    | (rw [hgs]; refine TTm7 ?_; try rw [hset_hset])
    | ((with_reducible refine Gd.go ?_); refine Gd.on (fun hg => ?_) (fun hg => ?_) <;> refine TGm7 ?_ <;> (try simp only [HC] at hg))
    | ((with_reducible refine Fin.go ?_); first | (refine Fin.p ?_; first | exact FT | (try refine TTm7 ?_; try simp only [LF])) | refine Fin.a0 ?_ | refine Fin.a ?_ | refine Fin.ni ?_ | refine Fin.v ?_ ?_ | refine Fin.r ?_ ?_ | exact Fin.th | (refine Fin.t ?_; try simp only [AV.sl.injEq]))
    | (refine And.go ?_; refine AndI ?_)
    | fail)
  all_goals (try clear ih)
  all_goals (try dsimp only)
  all_goals (repeat' apply And.intro)
  all_goals first | omega | (simp only [ZL]; omega) | skip
  all_goals (try clear hr hk hB)
  all_goals first | (rw [List.length_set, List.length_set]; exact hi2) | (have e : ∀ x : Link, (out.set i x).getD i default = x := fun x => getD_set2 (by omega); rw [List.set_set, e]; refine set_nextx hi4 ⟨by omega, by rw [marksL_len]; omega⟩ ?_; rw [marksL_at _ _ _ (by omega), hi3]) | skip
  all_goals first | (refine Fin.same ⟨congrArg (AV.int IntKind.i64) (show j = _ by omega), rfl, ?_⟩; rw [take_all hi4 (by omega) (by rw [marksL_len]; omega)]) | trace_state
theorem w_markLinkS.ok0 {P : Program} {k : Nat} (hk : Has P k (w_markLinkS.X)) : C_m0 P k := by
  intro k0 hk0 hk1 n H
  refine S.ofX hk rfl fun hB fn hr => ?_
  unfold w_markLinkS.x
  repeat' (first
    | ((with_reducible refine S.go ?_); first | refine S.seq ?_ | refine S.skip ?_ | refine S.block ?_ | refine S.inBlock ?_ | refine S.exit rfl ?_ | refine S.regN ?_ | refine S.reg ?_ | refine S.drw hk.mo (by kernel_rfl) ?_ | (refine S.cond rfl (fun hc => ?_) (fun hc => ?_) <;> try simp only [HC] at hc) | refine S.retH hr rfl ?_ | refine S.finH hr rfl ?_ | (refine S.retK hr ?_; refine TRm7 ?_) | fail)
    | ((first | with_reducible refine Ns.go ?_ | with_reducible refine XOs.go ?_ | with_reducible refine XDs.go ?_ | with_reducible refine OK.go ?_); (first | refine TTm7 ?_ | (apply Ns.sc ⟨rfl, rfl⟩ rfl; intro hg) | (refine OK.tr ?_; refine TTm7 ?_)); (try simp only [HC] at hg))
    | with_reducible exact rfl | exact ⟨rfl, rfl, rfl⟩
    | ((with_reducible refine Gd.go ?_); refine Gd.on (fun hg => ?_) (fun hg => ?_) <;> refine TGm7 ?_ <;> (try simp only [HC] at hg))
    | ((with_reducible refine Fin.go ?_); first | (refine Fin.p ?_; first | exact FT | (try refine TTm7 ?_; try simp only [LF])) | refine Fin.a0 ?_ | refine Fin.a ?_ | refine Fin.ni ?_ | refine Fin.v ?_ ?_ | refine Fin.r ?_ ?_ | exact Fin.th | (refine Fin.t ?_; try simp only [AV.sl.injEq]))
    | (refine And.go ?_; refine AndI ?_)
    | fail)
  refine S.loopV (σ := Nat) [0, 1, 5] (fun s => [(5, .int .i64 (s : Int))]) (fun s => s ≤ 0) (fun s => n) (fun s => H) (fun s => 0 - s) (0) (by omega) ?_
  rintro i hi1 ih
  try dsimp only at hi1
  repeat' (first
    | ((with_reducible refine S.go ?_); first | refine S.seq ?_ | refine S.skip ?_ | refine S.block ?_ | refine S.inBlock ?_ | refine S.exit rfl ?_ | refine S.regN ?_ | refine S.reg ?_ | refine S.drw hk.mo (by kernel_rfl) ?_ | refine S.ag (ih (i + 1) ?_ ?_) | (refine S.cond rfl (fun hc => ?_) (fun hc => ?_) <;> try simp only [HC] at hc) | refine S.retH hr rfl ?_ | refine S.finH hr rfl ?_ | (refine S.retK hr ?_; refine TRm7 ?_) | fail)
    | ((first | with_reducible refine Ns.go ?_ | with_reducible refine XOs.go ?_ | with_reducible refine XDs.go ?_ | with_reducible refine OK.go ?_); (first | refine TTm7 ?_ | (apply Ns.sc ⟨rfl, rfl⟩ rfl; intro hg) | (refine OK.tr ?_; refine TTm7 ?_)); (try simp only [HC] at hg))
    | with_reducible exact rfl | exact ⟨rfl, rfl, rfl⟩
    | ((with_reducible refine Gd.go ?_); refine Gd.on (fun hg => ?_) (fun hg => ?_) <;> refine TGm7 ?_ <;> (try simp only [HC] at hg))
    | ((with_reducible refine Fin.go ?_); first | (refine Fin.p ?_; first | exact FT | (try refine TTm7 ?_; try simp only [LF])) | refine Fin.a0 ?_ | refine Fin.a ?_ | refine Fin.ni ?_ | refine Fin.v ?_ ?_ | refine Fin.r ?_ ?_ | exact Fin.th | (refine Fin.t ?_; try simp only [AV.sl.injEq]))
    | (refine And.go ?_; refine AndI ?_)
    | fail)
  all_goals (try clear ih)
  all_goals (try dsimp only)
  all_goals (repeat' apply And.intro)
  all_goals first | omega | (simp only [ZL]; omega) | skip
  all_goals first | rfl | (exfalso; revert hc; simp; done) | (exfalso; revert hc; simp; omega)
def C_markL (P : Program) (f : Nat) : Prop := ∀ (l : List Link), l.length ≤ 4294967296 → MarkT P f (.sl (enc l)) (fun k => .sl (enc (marksL k l.length))) (2 * l.length)
theorem w_markLinkS.ok {P : Program} {k : Nat} (hk : Has P k (w_markLinkS.X)) (h1 : C_markL1 P k) (h0 : C_m0 P k) : C_markL P k := by
  exact fun l hl => MarkT.flat (fun _ => rfl) rfl (fun _ => marksL_len _ _) (h1 l hl) (fun hl k hk0 hk1 => by subst hl; simpa using h0 k hk0 hk1)
def C_markCT (P : Program) (f : Nat) : Prop := ∀ (l : List Link), l.length ≤ 4294967296 → MarkT P f (.agg [.sl (enc l)]) (fun k => .agg [.sl (enc (marksL k l.length))]) (2 * l.length)
def C_markC (P : Program) (f : Nat) : Prop := ∀ (l : List Link), l.length ≤ 4294967296 → MarkS P f (.agg [.sl (enc l)]) (fun k => .agg [.sl (enc (marksL k l.length))]) (2 * l.length)
/-- laws.markCandidate -/
def w_markCandidate.x (c_w_markLinkS : Nat) : XCode :=
  (.seq
    (.reg [⟨(some 2), .boxO, [.t 0], none⟩,
      ⟨(some 4), .mv, [.k (.int .i64 0)], none⟩] [1, 2])
    (.seq
      (.reg [⟨(some 5), (.fldA 0), [.t 2], none⟩,
        ⟨(some 6), (.ld none), [.t 5], none⟩,
        ⟨(some 7), .mv, [.t 1], none⟩,
        ⟨(some 8), .call, [.k (.fn c_w_markLinkS []), .t 6, .t 7], none⟩,
        ⟨(some 1), .mv, [.t 8], none⟩] [1])
      (.seq
        (.reg [⟨(some 9), .mv, [.t 1], none⟩,
          ⟨(some 4), .mv, [.t 9], none⟩] [4])
        .ret)))
def w_markCandidate.F : Cfg := ⟨fun d => if d = 2 then 2 else 0, fun r => match r with | 0 => [1, 2] | 1 => [1] | 2 => [4] | _ => []⟩
def w_markCandidate.X (c_w_markLinkS : Nat) : FX := ⟨10, [.tmp 4], w_markCandidate.F, w_markCandidate.x c_w_markLinkS⟩

theorem w_markCandidate.ok {P : Program} {k c_w_markLinkS : Nat} (hk : Has P k (w_markCandidate.X c_w_markLinkS)) (h1 : C_markL P c_w_markLinkS) : C_markC P k := by
  intro l hl k N v n R hk0 hk1 ht
  have k1 := h1 l hl
  obtain ⟨c1, rfl, h⟩ := ht.in1
  refine S.ofP hk rfl (hp2 N R) fun hB fn hr => ?_
  unfold w_markCandidate.x
  repeat' (first
    | ((with_reducible refine S.go ?_); first | refine S.seq ?_ | refine S.skip ?_ | refine S.block ?_ | refine S.inBlock ?_ | refine S.exit rfl ?_ | refine S.regN ?_ | refine S.reg ?_ | refine S.drw hk.mo (by kernel_rfl) ?_ | (refine S.cond rfl (fun hc => ?_) (fun hc => ?_) <;> try simp only [HC] at hc) | refine S.retH hr rfl ?_ | refine S.finH hr rfl ?_ | (refine S.retK hr ?_; refine TRm7 ?_) | fail)
    | ((first | with_reducible refine Ns.go ?_ | with_reducible refine XOs.go ?_ | with_reducible refine XDs.go ?_ | with_reducible refine OK.go ?_); (first | refine TTm7 ?_ | (apply Ns.sc ⟨rfl, rfl⟩ rfl; intro hg) | (refine OK.tr ?_; refine TTm7 ?_)); (try simp only [HC] at hg))
    | with_reducible exact rfl | exact ⟨rfl, rfl, rfl⟩
    | ((with_reducible refine RunsT.go ?_); first | refine MarkT.a ( k1) (fun N hnm ht => ?_) | fail)
    | ((with_reducible refine Gd.go ?_); refine Gd.on (fun hg => ?_) (fun hg => ?_) <;> refine TGm7 ?_ <;> (try simp only [HC] at hg))
    | ((with_reducible refine Fin.go ?_); first | (refine Fin.p ?_; first | exact FT | (try refine TTm7 ?_; try simp only [LF])) | refine Fin.a0 ?_ | refine Fin.a ?_ | refine Fin.ni ?_ | refine Fin.v ?_ ?_ | refine Fin.r ?_ ?_ | exact Fin.th | (refine Fin.t ?_; try simp only [AV.sl.injEq]))
    | (refine And.go ?_; refine AndI ?_)
    | fail)
  all_goals (try clear hr hk)
  refine Fin.mark hB (Tree.mk1 ht) hnm Sub rfl ⟨rfl, rfl, _, Tree.mk1 ht, hnm, rfl⟩
theorem w_markCandidate.okT {P : Program} {k c_w_markLinkS : Nat} (hk : Has P k (w_markCandidate.X c_w_markLinkS)) (h1 : C_markC P k) : C_markCT P k := by
  exact fun l hl => (h1 l hl).t
theorem szGo_up : ∀ (l : List (List UInt8)) (a : Int), szGo l a ≤ a ∨ szGo l a = -1
  | [], a => .inl (Int.le_refl _)
  | s :: l, a => by
    unfold szGo
    split
    · exact .inr rfl
    · rcases szGo_up l (a - s.length) with h | h
      · exact .inl (by omega)
      · exact .inr h
theorem szStr_up (l : List (List UInt8)) (a : Int) (h : 0 ≤ a := by omega) : szStr l a ≤ a := by
  unfold szStr
  split
  · omega
  · rcases szGo_up l (a - l.length) with h | h <;> omega
end Go.M07

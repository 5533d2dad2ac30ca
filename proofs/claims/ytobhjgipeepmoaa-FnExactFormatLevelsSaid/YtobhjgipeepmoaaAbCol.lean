/- slices.AppendSeq(nil, slices.Values(s)) at int: a new slice with the same numbers. Over any program. -/
import Derived.Shelf.SlIterI.Collect
import Derived.RangeFuncBox
import Derived.RangeFuncLeaves
import Derived.WalkKit
import Derived.OwnWalkIn
import Derived.TacticsInMore
import Derived.LoopNIn
import Derived.LoopIn
namespace Go.Proofs
open Go.RowKit Go.Maps Go.Sort Go.Shelf
variable {P : Program} {ρ : Ren}

def cntV : Value → Int | .int _ q => q | _ => 0
/-- The closure that slices.Values hands back. -/
def v1F (a i b y : TypeId) : Func :=
  { name := "", origin := "", params := #[y], resultTypes := #[], nfree := 1, ntmps := 16, results := #[],
    body := some (.seq
      (.region 0 #[{ dst := some 5, op := .load a (.tmp 1), type := a, pos := "iter.go:39", after := #[], guard := none },
        { dst := some 6, op := .call { callee := .builtin .len, args := #[.tmp 5], argTypes := #[a] }, type := i, pos := "iter.go:39", after := #[{ on := 0, ground := .data }], guard := none },
        { dst := some 7, op := .move (.const (.int .i64 0)), type := i, pos := "iter.go:39", after := #[], guard := none }] false)
      (.block 0 (.loop (.seq
        (.region 1 #[{ dst := some 8, op := .binOp .lss i (.tmp 7) (.tmp 6) i, type := 0, pos := "iter.go:39", after := #[], guard := none }] false)
        (.seq (.cond (.tmp 8) .skip (.exit 0)) (.seq
          (.block 1 (.seq
            (.region 2 #[{ dst := some 9, op := .indexAddr a (.tmp 5) (.tmp 7), type := 0, pos := "iter.go:39", after := #[], guard := none },
              { dst := some 10, op := .load i (.tmp 9), type := i, pos := "iter.go:39", after := #[{ on := 0, ground := .data }], guard := none },
              { dst := some 4, op := .assign (.tmp 10), type := i, pos := "iter.go:39", after := #[{ on := 1, ground := .data }, { on := 0, ground := .phase }, { on := 1, ground := .phase }], guard := none }] false)
            (.seq
              (.region 3 #[{ dst := some 11, op := .move (.tmp 0), type := y, pos := "iter.go:40", after := #[], guard := none },
                { dst := some 12, op := .move (.tmp 4), type := i, pos := "iter.go:40", after := #[], guard := none },
                { dst := some 13, op := .call { callee := .value (.tmp 11), args := #[.tmp 12], argTypes := #[i] }, type := b, pos := "iter.go:40", after := #[{ on := 0, ground := .data }, { on := 1, ground := .data }], guard := none },
                { dst := some 14, op := .unOp .not b (.tmp 13), type := b, pos := "iter.go:40", after := #[{ on := 2, ground := .data }], guard := none }] false)
              (.cond (.tmp 14) .ret .skip))))
          (.region 4 #[{ dst := some 15, op := .binOp .add i (.tmp 7) (.const (.int .i64 1)) i, type := i, pos := "iter.go:39", after := #[], guard := none },
            { dst := some 7, op := .move (.tmp 15), type := i, pos := "iter.go:39", after := #[{ on := 0, ground := .data }], guard := none }] false)))))))
    norace := false, file := "slices/iter.go", endLine := 44, tmpNames := #["yield", "", "yield", "_", "v", "", "", "", "", "", "", "", "", "", "", ""] }

structure V1Lays (P : Program) (k : FuncId) (a i b y : TypeId) : Prop where
  mixed : P.follows .mixedOrders = true
  f : Bears P k (v1F a i b y)
  t0 : P.underlying 0 = some (TypeDesc.tuple #[])
  a0 : ∀ w, (isAgg 0).run P w = .ok false w
  z0 : ∀ w, (Go.sizeOf 0).run P w = .ok 1 w
  v0 : ∀ w, (zeroValue 0).run P w = .ok (Value.tuple #[]) w
  ta : P.underlying a = some (TypeDesc.slice i)
  aa : ∀ w, (isAgg a).run P w = .ok false w
  za : ∀ w, (Go.sizeOf a).run P w = .ok 1 w
  va : ∀ w, (zeroValue a).run P w = .ok (Value.slice none 0 0) w
  ti : P.underlying i = some (TypeDesc.int IntKind.i64)
  ai : ∀ w, (isAgg i).run P w = .ok false w
  zi : ∀ w, (Go.sizeOf i).run P w = .ok 1 w
  vi : ∀ w, (zeroValue i).run P w = .ok (Value.int IntKind.i64 0) w
  tb : P.underlying b = some (TypeDesc.bool)
  ab : ∀ w, (isAgg b).run P w = .ok false w
  zb : ∀ w, (Go.sizeOf b).run P w = .ok 1 w
  vb : ∀ w, (zeroValue b).run P w = .ok (Value.bool false) w

theorem cellEq {W W' : World} {p : Addr} (h : W'.heap[p.block]? = W.heap[p.block]?) : W'.cell? p = W.cell? p := by simp [World.cell?, h]
set_option maxRecDepth 100000 in
set_option maxHeartbeats 2000000 in
theorem values1_in {k a i b y : Nat} (L : V1Lays P k a i b y) (F : Fence) (n : Nat) (h7 : F.fn k) (hro : F.round = none) (hn : 1 ≤ n) (l n₀ Bs bo : Nat) (sv : Option Addr) (cap : Nat) (zs : List Int) (hreach : zs.length * 8 ≤ 140737488351232) (J : List Int → World → Prop)
    (hY : ∀ pre x W, J pre W → pre.length < zs.length → YieldAt F (n - 1) P l #[.int .i64 x] W fun e W' => e = .returned (.bool true) ∧ J (pre ++ [x]) W' ∧ KeepsWalks W W')
    (W : World) (hBs : W.cell? ⟨Bs, bo, none⟩ = some (.slice sv zs.length cap)) (hJ0 : ∀ pre W', J pre W' → ∀ k, k < n₀ → W'.heap[k]? = W.heap[k]?) (hc : ∀ j, j < zs.length → ∃ bb off, sv = some ⟨bb, off, none⟩ ∧ bb < n₀ ∧ W.cell? ⟨bb, off + j, none⟩ = some (.int .i64 (zs.getD j 0))) (h0 : J [] W) :
    CallsIn F n P k #[.func (.yield l) #[] #[], .pointer (some ⟨Bs, bo, none⟩)] W fun e W' => (∃ v, e = .returned v) ∧ J zs W' := by
  have mixed := L.mixed; have t0 := L.t0; have a0 := L.a0; have z0 := L.z0; have v0 := L.v0; have ta := L.ta; have aa := L.aa; have za := L.za; have va := L.va; have ti := L.ti; have ai := L.ai; have zi := L.zi; have vi := L.vi; have tb := L.tb; have ab := L.ab; have zb := L.zb; have vb := L.vb
  have u0 := run_underlying L.t0; have ua := run_underlying L.ta; have ui := run_underlying L.ti; have ub := run_underlying L.tb
  obtain ⟨_, _, FG⟩ := L.f
  refine callsIn_of_wp FG rfl h7 ?_ hro
  simp only [v1F, List.size_toArray, List.length_cons, List.length_nil, Nat.reduceAdd, Nat.reduceSub, Array.replicate_succ, Array.replicate_zero, List.push_toArray, List.append_toArray, List.nil_append, List.cons_append]
  gi_wp2
  gi_loopw [7] (fun i wr => ∃ k : Nat, k ≤ zs.length ∧ i = .int .i64 k ∧ J (zs.take k) wr)
    (fun i _ => zs.length - (cntV i).toNat)
  case atStart => exact ⟨0, Nat.zero_le _, rfl, h0⟩
  case round =>
    obtain ⟨k, hk, rfl, hJs⟩ := hrel
    have hnx := hJ0 _ _ hJs
    by_cases hlt : k < zs.length
    · obtain ⟨fn, tmps, assign, body, hy, hR⟩ := hY _ zs[k] wr hJs (by rw [List.length_take]; omega)
      obtain ⟨bb, off, rfl, hbb, hcc⟩ := hc k hlt
      have hy' : (Instr.yield l #[.int .i64 zs[k]]).run P wr = .ok (.round l fn tmps assign body) wr := hy
      rw [List.getD_eq_getElem?_getD, List.getElem?_eq_getElem hlt, Option.getD_some] at hcc
      have hcx' := (cellEq (p := ⟨bb, off + k, none⟩) (hnx bb hbb)).trans hcc
      gi_wp2
      refine hR.mono ?_
      rintro e W3 ⟨rfl, hJ3, hk3⟩
      gi_wp2
      go_roundw
      case rel => exact ⟨k + 1, by omega, by simp, by rw [List.take_add_one, List.getElem?_eq_getElem hlt]; exact hJ3⟩
      case measure => simp [cntV]; omega
    · obtain rfl : k = zs.length := by omega
      gi_wp2
      go_end0
      exact ⟨⟨_, rfl⟩, by rwa [List.take_length] at hJs⟩

set_option maxRecDepth 100000 in
set_option maxHeartbeats 2000000 in
/-- slices.AppendSeq(nil, seq), seq made by slices.Values of a slice. -/
theorem appendValues_in (L : SlLaysZI.n11 P ρ) {g a i b y : Nat} (V : V1Lays P g a i b y) (F : Fence) (n : Nat) (h11 : F.fn (ρ.f 11)) (hro : F.round = none) (hn : 2 ≤ n) (hFg : F.fn g) (Bs bo : Nat) (sv : Option Addr) (cap : Nat) (zs : List Int) (lb : Array Value) (hlb : lb = #[.pointer (some ⟨Bs, bo, none⟩)])
    (N : Nat) (hN' : N = zs.length) (hN : N ≤ maxLen) (hNb : N * 8 ≤ 140737488351232) (w : World) (hBlt0 : Bs < w.heap.size) (hcell : w.cell? ⟨Bs, bo, none⟩ = some (.slice sv zs.length cap))
    (hc : ∀ j, j < zs.length → ∃ bb off, sv = some ⟨bb, off, none⟩ ∧ bb < w.heap.size ∧ w.cell? ⟨bb, off + j, none⟩ = some (.int .i64 (zs.getD j 0))) :
    CallsIn F n P (ρ.f 11) #[.slice none 0 0, .func (.func g) #[] lb] w fun e w' => ∃ v : Value, e = .returned v ∧ w'.ownsRow w.heap.size (ρ.t 26) 1 v zs.length (zs.map encZ) ∧ (v = .slice none 0 0 ↔ zs = []) ∧ Below w.heap.size w w' := by
  have eg : ∀ args w, (callFunc g args).run P w = .ok (.enter g args) w := V.f.enters rfl
  subst hN'
  have h1 : 1 ≤ n := by omega
  have mixed := L.mixed; have t0 := L.t0; have a0 := L.a0; have z0 := L.z0; have v0 := L.v0; have t24 := L.t24; have a24 := L.a24; have z24 := L.z24; have v24 := L.v24; have t26 := L.t26; have a26 := L.a26; have z26 := L.z26; have v26 := L.v26; have t28 := L.t28; have a28 := L.a28; have z28 := L.z28; have v28 := L.v28
  have hne : ρ.t 24 ≠ ρ.t 26 := fun e => by have h := L.t24; rw [e, L.t26] at h; cases h
  have u0 := run_underlying L.t0; have u24 := run_underlying L.t24; have u26 := run_underlying L.t26; have u28 := run_underlying L.t28
  obtain ⟨_, _, FG⟩ := L.f11
  refine callsIn_of_wp_marks FG rfl h11 ?_ hro
  simp only [SlBodyZ.n11_ntmps ρ, List.size_toArray, List.length_cons, List.length_nil, Nat.reduceAdd, Nat.reduceSub, Array.replicate_succ, Array.replicate_zero, List.push_toArray, List.append_toArray, List.nil_append, List.cons_append]
  gi_wp2
  refine wpIn_rangeFunc ?_
  intro fn hfn
  rw [hro]
  obtain ⟨W0, hW0⟩ : ∃ W0, w.alloc (.cells #[.slice none 0 0] (ρ.t 24)) = W0 := ⟨_, rfl⟩
  have hs0 : W0.heap.size = w.heap.size + 1 := by rw [← hW0]; simp
  have hv0 : W0.heap[w.heap.size]? = some (.cells #[.slice none 0 0] (ρ.t 24) (0, 0)) := by rw [← hW0]; exact World.alloc_heap_new w _
  have hb0 : Below w.heap.size w W0 := by rw [← hW0]; exact (Below.refl _ w).alloc (Nat.le_refl _) _
  rw [hW0]
  obtain ⟨W1, hW1⟩ : ∃ W1, (W0.alloc (.deferred (some []))).alloc (.loop (AnyZI.apRec ρ fn (.func (.func g) #[] lb) w.heap.size W0.heap.size .ready none)) = W1 := ⟨_, rfl⟩
  have hold : ∀ k, k < W0.heap.size → W1.heap[k]? = W0.heap[k]? := fun k hk => by
    rw [← hW1]; exact (Below.heap_alloc _ _ k (by simp; omega)).trans (Below.heap_alloc _ _ k hk)
  have hb1 : Below w.heap.size w W1 := by rw [← hW1]; exact (hb0.alloc hb0.size _).alloc (by have := hb0.size; simp; omega) _
  have hs1 : W1.heap.size = W0.heap.size + 2 := by rw [← hW1]; simp
  have hM : AnyZI.ApAt ρ w fn (.func (.func g) #[] lb) w.heap.size (W0.heap.size + 1) W0.heap.size [] W1 :=
    ⟨⟨_, (hold w.heap.size (by omega)).trans hv0, ⟨rfl, .inl ⟨rfl, rfl⟩⟩, by simp⟩,
     by rw [← hW1]; have := World.alloc_heap_new (W0.alloc (.deferred (some []))) (.loop (AnyZI.apRec ρ fn (.func (.func g) #[] lb) w.heap.size W0.heap.size .ready none)); rwa [World.size_alloc] at this,
     by rw [← hW1]; exact (Below.heap_alloc _ _ _ (by simp)).trans (World.alloc_heap_new W0 _), hb1⟩
  refine ⟨W0.heap.size + 1, [{ target := .collected W0.heap.size, args := #[] }], W1, { target := .fn (.func g) lb, args := #[.func (.yield (W0.heap.size + 1)) #[] #[]] }, W1, g,
    #[.func (.yield (W0.heap.size + 1)) #[] #[]] ++ lb, W1, ?_, ?_, ?_, ?_, fun _ => h1, ?_⟩
  · rw [← hW1]; exact run_enterLoop_outer _ _ _ _ _
  · simp [resolve, go_sem]
  · intro f' hf'; simp [Target.leads] at hf'; subst hf'; exact hFg
  · simp [invoke, go_sem, eg]
  · have hl2 : #[Value.func (.yield (W0.heap.size + 1)) #[] #[]] ++ lb = #[.func (.yield (W0.heap.size + 1)) #[] #[], .pointer (some ⟨Bs, bo, none⟩)] := by rw [hlb]; rfl
    rw [hl2]
    refine (values1_in V F (n - 1) hFg hro (by omega) (W0.heap.size + 1) w.heap.size Bs bo sv cap zs (by omega) (AnyZI.ApAt ρ w fn (.func (.func g) #[] lb) w.heap.size (W0.heap.size + 1) W0.heap.size)
      (fun pre x W hJ hl => AnyZI.apYield { L with } F (n - 1 - 1) w fn hfn _ w.heap.size (W0.heap.size + 1) W0.heap.size (by omega) (by omega) (by omega) (Nat.le_refl _) (by omega) zs.length hN (by omega) pre x W hJ hl) W1 ((hb1.cell (p := ⟨Bs, bo, none⟩) hBlt0).trans hcell) (fun pre W' hJ k hk => (hJ.below.block k hk).trans (hb1.block k hk).symm) (fun j hj => by
        obtain ⟨bb, off, e1, e2, e3⟩ := hc j hj
        exact ⟨bb, off, e1, e2, (hb1.cell (p := ⟨bb, off + j, none⟩) e2).trans e3⟩) hM).mono ?_
    rintro e W2 ⟨⟨v0, rfl⟩, h2⟩
    obtain ⟨v, hv, hrow, hnil⟩ := h2.box
    have hend := run_endLoop (P := P) h2.L (by simp [AnyZI.apRec])
    obtain ⟨W3, hW3⟩ : ∃ W3, W2.putObj (W0.heap.size + 1) (.loop { AnyZI.apRec ρ fn (.func (.func g) #[] lb) w.heap.size W0.heap.size .ready none with state := .exhausted }) = W3 := ⟨_, rfl⟩
    rw [hW3] at hend
    have hg3 : W2.grownBy W3 (some (W0.heap.size + 1)) := by rw [← hW3]; exact grownBy_putObj_a _ _ _
    have hv3 : W3.heap[w.heap.size]? = some (.cells #[v] (ρ.t 24) (0, 0)) := by rw [← hW3]; exact (World.putObj_heap_other (by omega)).trans hv
    have hK3 : W3.heap[W0.heap.size]? = some (.deferred (some [])) := by rw [← hW3]; exact (World.putObj_heap_other (by omega)).trans h2.K
    have hrow3 := hrow.kept hg3 (ownsRow_ne_a hrow h2.L (fun cur e => by first | cases e | exact hne (Obj.cells.inj e).2.1))
    have hb3 : Below w.heap.size w W3 := h2.below.grown hg3 h2.below.size (fun k e => by cases e; omega)
    obtain ⟨hc3, hf3⟩ := cell_of_box_a hv3
    clear hW3
    refine ⟨none, W3, hend, ?_⟩
    gi_wp2
    rw [← hs0]
    refine ⟨by simp, .inl ⟨_, _, rfl, run_takeDeferred hK3, ?_⟩⟩
    exact ⟨_, results_tmp rfl _ _ _, v, rfl, hrow3.kept (grownBy_putObj_a _ _ _) (ownsRow_ne_a hrow3 hK3 (fun cur e => by first | cases e | exact hne (Obj.cells.inj e).2.1)), hnil, hb3.grown (grownBy_putObj_a _ _ _) hb3.size (fun k e => by cases e; omega)⟩
end Go.Proofs

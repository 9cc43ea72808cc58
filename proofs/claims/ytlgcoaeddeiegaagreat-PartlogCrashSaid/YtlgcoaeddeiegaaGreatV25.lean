/- The texts Pzq, Pw, Kz, Pzr, Mr, Ya in one. -/
import Derived.Test.YtlgcoaeddeiegaaGreatV12
import Derived.Test.YtlgcoaeddeiegaaGreatV15
import Derived.RangeFuncCalls
import Derived.RangeFuncLeaves
import Derived.RangeFuncFrom
import Derived.Shelf.Abstract
import Derived.Shelf.RegionOpen
import Derived.OwnWalkIn
import Derived.TacticsInMore
import Derived.LoopNIn
import Derived.LoopIn
import Derived.Test.YtlgcoaeddeiegaaGreatV5
import Derived.Test.YtlgcoaeddeiegaaGreatV3
import Derived.Deep.RegionWith
/- partlog: Segments. -/
namespace Go.Proofs.YtlgcoaeddeiegaaGreat
open Go Go.Maps Go.RowKit
attribute [local go_sem] Oper.semAt_some

end Go.Proofs.YtlgcoaeddeiegaaGreat
/- slices.Values at elements of one cell: the iterator tells a row, in order. -/
namespace Go.Proofs.YtlgcoaeddeiegaaGreat
open Go Go.RowKit Go.Shelf
attribute [local go_sem] Oper.semAt_some

set_option maxHeartbeats 400000 in
theorem valuesSegs_b (w : World) (oa : Option Addr) (n c : Nat) : Calls Tryz.prog 86 #[.slice oa n c] w fun e w' => e = .returned (.func (.func 155) #[] #[.pointer (some ⟨w.heap.size, 0, none⟩)]) ∧ w' = w.alloc (.cells #[.slice oa n c] 80) := by
  go_enter Tryz.func86, Tryz.ntmps86
  go_wp2_with fail
  go_ret
  exact ⟨rfl, rfl⟩
end Go.Proofs.YtlgcoaeddeiegaaGreat
/- A range over a function that has memory of its own; the rounds may write to what X holds of, blocks ahead of the iterator among them. -/
namespace Go.Proofs.YtlgcoaeddeiegaaGreat
open Go Go.RowKit

variable {F : Fence} {n : Nat} {P : Program}

abbrev KeptX (X T : Nat → Prop) (W W' : World) : Prop := Only (fun k => X k ∧ ¬ T k) W W'
theorem KeptX.join {X T : Nat → Prop} {A B C : World} (h : KeptX X T A B) (k : KeptX X T B C) : KeptX X T A C := Only.trans h k (fun _ _ h => h)
theorem KeptX.of {X T : Nat → Prop} {A B : World} (h : Below A.heap.size A B) : KeptX X T A B := Only.of_below h (Nat.le_refl _) _
def SeqToldX {α : Type} (F : Fence) (n : Nat) (P : Program) (g : Nat) (lb : Array Value) (encs : α → Array Value) (Gv : Nat → (Nat → Prop) → List α → α → World → Prop) (S Sp : List α → Prop) (N : Nat) (X : Nat → Prop) (w : World) : Prop :=
  ∀ (l : Nat) (J Jx : (Nat → Prop) → List α → World → Prop) (W : World), Below w.heap.size w W →
    (∀ T W1, Below W.heap.size W W1 → (∀ k, T k → W.heap.size ≤ k ∧ k < W1.heap.size) → J T [] W1) →
    (∀ T pre A B, J T pre A → Only T A B → J T pre B) → (∀ T pre A B, Jx T pre A → Only T A B → Jx T pre B) →
    (∀ T pre x Wp W1, (∀ k, T k → W.heap.size ≤ k ∧ k < W1.heap.size) → J T pre Wp → Only T Wp W1 → W.heap.size ≤ Wp.heap.size → Gv Wp.heap.size T pre x W1 → pre.length < N → YieldAt F (n - 1) P l (encs x) W1 fun e W' =>
      (e = .returned (.bool true) ∧ J T (pre ++ [x]) W' ∧ KeptX X T W1 W') ∨ (e = .returned (.bool false) ∧ Jx T (pre ++ [x]) W' ∧ KeptX X T W1 W')) →
    CallsIn F n P g (#[.func (.yield l) #[] #[]] ++ lb) W fun e W' => (∃ v, e = .returned v) ∧ ((∃ T xs, S xs ∧ J T xs W') ∨ (∃ T pre, Sp pre ∧ Jx T pre W'))
theorem SeqToldX.later {α : Type} {g : Nat} {lb : Array Value} {encs : α → Array Value} {Gv : Nat → (Nat → Prop) → List α → α → World → Prop} {S Sp : List α → Prop} {N : Nat} {X : Nat → Prop} {w w' : World}
    (h : SeqToldX F n P g lb encs Gv S Sp N X w) (hb : Below w.heap.size w w') : SeqToldX F n P g lb encs Gv S Sp N X w' :=
  fun l J Jx W hW hs hJ hJx hY => h l J Jx W (hb.trans (hW.mono hb.size)) hs hJ hJx hY
abbrev KeptSX (X : Nat → Prop) (b : Nat) (T : Nat → Prop) (W W' : World) : Prop := KeptX X (fun k => T k ∨ k = b ∨ k = b + 1) W W'
theorem wpIn_rangeFunc_toldX {α : Type} {g : Operand} {ps : Array Tmp} {assign body : Code} {Q : Exit → Act → World → Prop} {a : Act} {w : World}
    (hro : F.round = none) (h1 : 1 ≤ n) {gf : Nat} {lb : Array Value} (hg : a.eval g = .func (.func gf) #[] lb) (hFg : F.fn gf) (eg : ∀ args w, (callFunc gf args).run P w = .ok (.enter gf args) w)
    {encs : α → Array Value} {Gv : Nat → (Nat → Prop) → List α → α → World → Prop} {S Sp : List α → Prop} {N : Nat} {X : Nat → Prop} {w0 : World} (hX : ∀ k, w.heap.size ≤ k → X k) (hseq : SeqToldX F (n - 1) P gf lb encs Gv S Sp N X w0) (hb0 : Below w0.heap.size w0 w) (hps : ∀ x, (encs x).size = ps.size)
    (I : (Nat → Prop) → List α → World → Prop) (Ix : Code → (Nat → Prop) → List α → World → Prop)
    (hI : ∀ T pre A B, I T pre A → Only (fun k => T k ∨ k = w.heap.size ∨ k = w.heap.size + 1) A B → I T pre B)
    (hIx : ∀ c T pre A B, Ix c T pre A → Only (fun k => T k ∨ k = w.heap.size ∨ k = w.heap.size + 1) A B → Ix c T pre B)
    (h0 : ∀ T W1, Below w.heap.size w W1 → w.heap.size + 2 ≤ W1.heap.size → (∀ k, T k → w.heap.size + 2 ≤ k ∧ k < W1.heap.size) → I T [] W1)
    (hround : ∀ T pre x Wp W, (∀ k, T k → w.heap.size + 2 ≤ k ∧ k < W.heap.size) → (∃ r, W.heap[w.heap.size + 1]? = some (.loop r)) → W.heap[w.heap.size]? = some (.deferred (some [])) → I T pre Wp → Only T Wp W → w.heap.size + 2 ≤ Wp.heap.size → Gv Wp.heap.size T pre x W → pre.length < N →
      ∀ K : Act → World → Prop, (∀ a' W', KeptSX X w.heap.size T W W' →
        (∀ W2, Only (fun k => k = w.heap.size + 1) W' W2 → (∃ r, W2.heap[w.heap.size + 1]? = some (.loop r)) →
          body.wpIn (F.inRound (w.heap.size + 1)) (n - 1 - 1) P (toldPost (KeptSX X w.heap.size T) (I T) (fun c => Ix c T) (pre ++ [x]) W2) a' W2) → K a' W') →
      assign.wpIn (F.inRound (w.heap.size + 1)) (n - 1 - 1) P (Exit.then K (fun _ _ _ => False)) { tmps := (ps.zip (encs x)).foldl (fun t (p, v) => t.setIfInBounds p v) a.tmps, defers := [] } W)
    (hdone : ∀ T xs W, S xs → I T xs W → W.heap[w.heap.size]? = some (.deferred (some [])) → Q .normal { a with defers := { target := .collected w.heap.size, args := #[] } :: a.defers } W)
    (hstop : ∀ T c pre W, Sp pre → Ix c T pre W → W.heap[w.heap.size]? = some (.deferred (some [])) → c.wpIn F n P Q { a with defers := { target := .collected w.heap.size, args := #[] } :: a.defers } W) :
    (Code.rangeFunc g ps assign body).wpIn F n P Q a w := by
  refine wpIn_rangeFunc fun fn hfn => ?_
  rw [hro]
  obtain ⟨rec, hrec⟩ : ∃ rec : LoopState → Option Code → Loop, rec = fun st pe => { state := st, pending := pe, fn, tmps := a.tmps, params := ps, assign, body, defers := w.heap.size } := ⟨_, rfl⟩
  obtain ⟨V, hV⟩ : ∃ V, (w.alloc (.deferred (some []))).alloc (.loop (rec .ready none)) = V := ⟨_, rfl⟩
  have hVs : V.heap.size = w.heap.size + 2 := by rw [← hV]; simp
  have hVb : Below w.heap.size w V := by rw [← hV]; exact ((Below.refl _ w).alloc (Nat.le_refl _) _).alloc (by simp) _
  have hVl : V.heap[w.heap.size + 1]? = some (.loop (rec .ready none)) := by
    rw [← hV]
    have := World.alloc_heap_new (w.alloc (.deferred (some []))) (.loop (rec .ready none))
    rwa [World.size_alloc] at this
  have hVd : V.heap[w.heap.size]? = some (.deferred (some [])) := by rw [← hV]; exact (Below.heap_alloc _ _ _ (by simp)).trans (World.alloc_heap_new w _)
  refine ⟨w.heap.size + 1, [{ target := .collected w.heap.size, args := #[] }], V, { target := .fn (.func gf) lb, args := #[.func (.yield (w.heap.size + 1)) #[] #[]] }, V, gf, #[.func (.yield (w.heap.size + 1)) #[] #[]] ++ lb, V,
    by rw [← hV, hrec]; exact run_enterLoop_outer _ _ _ _ _, ?_, ?_, by simp [invoke, go_sem, eg], fun _ => h1, ?_⟩
  · simp only [resolve, hg]
    simp [go_sem]
  · intro f' hf'
    simp [Target.leads] at hf'
    subst hf'
    exact hFg
  -- the two blocks of the statement's own, in whatever world the iterator leaves
  have book : ∀ {T : Nat → Prop} {A B : World} {o : Obj} {k : Nat}, (∀ k, T k → w.heap.size + 2 ≤ k) → Only T A B → k < w.heap.size + 2 → A.heap[k]? = some o → B.heap[k]? = some o := fun hT ho hk hA =>
    (ho.block _ (Array.getElem?_eq_some_iff.1 hA).1 (fun h => by have := hT _ h; omega)).trans hA
  have kept : ∀ {T : Nat → Prop} {A B : World} {o : Obj} {k : Nat}, KeptSX X w.heap.size T A B → (k = w.heap.size ∨ k = w.heap.size + 1) → A.heap[k]? = some o → B.heap[k]? = some o := fun ho hk hA =>
    (ho.block _ (Array.getElem?_eq_some_iff.1 hA).1 (fun h => h.2 (.inr hk))).trans hA
  refine (hseq (w.heap.size + 1)
    (fun T pre W => (∀ k, T k → w.heap.size + 2 ≤ k) ∧ I T pre W ∧ W.heap[w.heap.size + 1]? = some (.loop (rec .ready none)) ∧ W.heap[w.heap.size]? = some (.deferred (some [])))
    (fun T pre W => (∀ k, T k → w.heap.size + 2 ≤ k) ∧ ∃ c, Ix c T pre W ∧ W.heap[w.heap.size + 1]? = some (.loop (rec .done (some c))) ∧ W.heap[w.heap.size]? = some (.deferred (some [])))
    V (hb0.trans (hVb.mono hb0.size)) ?start ?abide ?abidex ?round).mono ?behind
  case start =>
    intro T W1 hW1 hT
    rw [hVs] at hT
    have hs := hW1.size
    rw [hVs] at hs
    exact ⟨fun k hk => (hT k hk).1, h0 T W1 (hVb.trans (hW1.mono (by omega))) hs hT, (hW1.block _ (by omega)).trans hVl, (hW1.block _ (by omega)).trans hVd⟩
  case abide =>
    rintro T pre A B ⟨hT, hi, hl, hd⟩ ho
    exact ⟨hT, hI T pre A B hi (ho.mono (fun _ _ h => .inl h)), book hT ho (by omega) hl, book hT ho (by omega) hd⟩
  case abidex =>
    rintro T pre A B ⟨hT, c, hi, hl, hd⟩ ho
    exact ⟨hT, c, hIx c T pre A B hi (ho.mono (fun _ _ h => .inl h)), book hT ho (by omega) hl, book hT ho (by omega) hd⟩
  case round =>
    rintro T pre x Wp W hTW ⟨hT, hi, hlp, hdp⟩ hop hszp hgv hlen
    rw [hVs] at hszp
    have hl := book hT hop (by omega) hlp
    have hd := book hT hop (by omega) hdp
    have hy := run_yield (P := P) (args := encs x) hl (by rw [hrec]; exact hps x)
    rw [hrec] at hy
    refine ⟨fn, _, assign, body, hy, roundIn_of_wpIn hfn (wpIn_mono (hround T pre x Wp W (fun k hk => ⟨hT k hk, (hTW k hk).2⟩) ⟨_, hl⟩ hd hi hop hszp hgv hlen (fun a' W' => KeptSX X w.heap.size T W W' ∧ ∀ W2, Only (fun k => k = w.heap.size + 1) W' W2 → (∃ r, W2.heap[w.heap.size + 1]? = some (.loop r)) → body.wpIn (F.inRound (w.heap.size + 1)) (n - 1 - 1) P (toldPost (KeptSX X w.heap.size T) (I T) (fun c => Ix c T) (pre ++ [x]) W2) a' W2) (fun _ _ h1 h2 => ⟨h1, h2⟩)) ?_)⟩
    clear hy
    rintro e a' Wa hp
    cases e with
    | normal =>
      obtain ⟨hka, hbody⟩ := hp
      have hla := kept hka (.inr rfl) hl
      have hda := kept hka (.inl rfl) hd
      have hlta := (Array.getElem?_eq_some_iff.1 hla).1
      refine ⟨_, run_beginRound hla (by rw [hrec]), ?_⟩
      have hl2 : (Wa.putObj (w.heap.size + 1) (.loop { rec .ready none with state := .busy })).heap[w.heap.size + 1]? = some (.loop { rec .ready none with state := .busy }) := World.putObj_heap_same hlta
      have hd2 : (Wa.putObj (w.heap.size + 1) (.loop { rec .ready none with state := .busy })).heap[w.heap.size]? = some (.deferred (some [])) := (World.putObj_heap_other (by omega)).trans hda
      have hput : ∀ (W' : World) (o : Obj), KeptX X T W' (W'.putObj (w.heap.size + 1) o) := fun W' o => only_put _ W' _ o ⟨hX _ (by omega), fun h => by have := hT _ h; omega⟩
      have hput' : ∀ (W' : World) (o : Obj), Only (fun k => T k ∨ k = w.heap.size ∨ k = w.heap.size + 1) W' (W'.putObj (w.heap.size + 1) o) := fun W' o => only_put _ W' _ o (.inr (.inr rfl))
      have less : ∀ {A B : World}, KeptSX X w.heap.size T A B → KeptX X T A B := fun h => h.mono (fun _ _ hk => ⟨hk.1, fun ht => hk.2 (.inl ht)⟩)
      refine wpIn_mono (hbody _ (only_put _ _ _ _ rfl) ⟨_, hl2⟩) ?_
      have fin : ∀ (jump : Option Code) (W3 : World), KeptSX X w.heap.size T (Wa.putObj (w.heap.size + 1) (.loop { rec .ready none with state := .busy })) W3 →
          (Instr.endRound (w.heap.size + 1) jump).run P W3 = .ok (.bool jump.isNone) (W3.putObj (w.heap.size + 1) (.loop (rec (if jump.isNone then .ready else .done) jump))) ∧
          (W3.putObj (w.heap.size + 1) (.loop (rec (if jump.isNone then .ready else .done) jump))).heap[w.heap.size + 1]? = some (.loop (rec (if jump.isNone then .ready else .done) jump)) ∧
          (W3.putObj (w.heap.size + 1) (.loop (rec (if jump.isNone then .ready else .done) jump))).heap[w.heap.size]? = some (.deferred (some [])) := fun jump W3 hk3 => by
        have hl3 := kept hk3 (.inr rfl) hl2
        have hr := run_endRound (P := P) jump hl3
        rw [hrec] at hr ⊢
        exact ⟨hr, World.putObj_heap_same (Array.getElem?_eq_some_iff.1 hl3).1, (World.putObj_heap_other (by omega)).trans (kept hk3 (.inl rfl) hd2)⟩
      rintro e a3 W3 hp3
      cases e with
      | normal =>
        obtain ⟨hk3, hi3⟩ := hp3
        obtain ⟨hr, hl4, hd4⟩ := fin none W3 hk3
        exact ⟨_, _, hr, .inl ⟨rfl, ⟨hT, hI _ _ _ _ hi3 (hput' _ _), hl4, hd4⟩, (((less hka).join (hput _ _)).join (less hk3)).join (hput _ _)⟩⟩
      | ret =>
        obtain ⟨hk3, hi3⟩ := hp3
        obtain ⟨hr, hl4, hd4⟩ := fin (some .ret) W3 hk3
        exact ⟨_, _, hr, .inr ⟨rfl, ⟨hT, .ret, hIx _ _ _ _ _ hi3 (hput' _ _), hl4, hd4⟩, (((less hka).join (hput _ _)).join (less hk3)).join (hput _ _)⟩⟩
      | exit id =>
        obtain ⟨hk3, hi3⟩ := hp3
        obtain ⟨hr, hl4, hd4⟩ := fin (some (.exit id)) W3 hk3
        exact ⟨_, _, hr, .inr ⟨rfl, ⟨hT, .exit id, hIx _ _ _ _ _ hi3 (hput' _ _), hl4, hd4⟩, (((less hka).join (hput _ _)).join (less hk3)).join (hput _ _)⟩⟩
      | goto t =>
        obtain ⟨hk3, hi3⟩ := hp3
        obtain ⟨hr, hl4, hd4⟩ := fin (some (.goto t)) W3 hk3
        exact ⟨_, _, hr, .inr ⟨rfl, ⟨hT, .goto t, hIx _ _ _ _ _ hi3 (hput' _ _), hl4, hd4⟩, (((less hka).join (hput _ _)).join (less hk3)).join (hput _ _)⟩⟩
      | panic ch => exact hp3.elim
      | outgrown => exact hp3.elim
    | ret => exact hp.elim
    | exit id => exact hp.elim
    | goto t => exact hp.elim
    | panic ch => exact hp.elim
    | outgrown => exact hp.elim
  case behind =>
    rintro e W2 ⟨⟨v, rfl⟩, (⟨T, xs, hS, hT, hi, hl, hd⟩ | ⟨T, pre, hSp, hT, c, hi, hl, hd⟩)⟩
    · exact ⟨none, _, by have := run_endLoop (P := P) hl (by rw [hrec]; simp); rw [hrec] at this; exact this, hdone T xs _ hS (hI _ _ _ _ hi (only_put _ _ _ _ (.inr (.inr rfl)))) ((World.putObj_heap_other (by omega)).trans hd)⟩
    · exact ⟨some c, _, by have := run_endLoop (P := P) hl (by rw [hrec]; simp); rw [hrec] at this; exact this, hstop T c pre _ hSp (hIx _ _ _ _ _ hi (only_put _ _ _ _ (.inr (.inr rfl)))) ((World.putObj_heap_other (by omega)).trans hd)⟩
end Go.Proofs.YtlgcoaeddeiegaaGreat
/- slices.Values over a log's segments, where the rounds may write to blocks ahead of it. -/
namespace Go.Proofs.YtlgcoaeddeiegaaGreat
open Go Go.RowKit Go.Shelf
attribute [local go_sem] Oper.semAt_some

set_option maxRecDepth 100000 in
set_option maxHeartbeats 1000000 in
theorem valsSegsX_in (n : Nat) (hn : 1 ≤ n) (l vb : Nat) (w : World) (xs : List Value) {oa : Option Addr} {c : Nat} (hv : w.heap[vb]? = some (.cells #[.slice oa xs.length c] 80 (0, 0))) (hrow : rowAt w 156 1 (.slice oa xs.length c) xs.length xs) (hfs : xs.length ≤ 1000000000) (J Jx : Nat → World → Prop) (W : World) (hW : Below w.heap.size w W)
    (hY : ∀ j (hj : j < xs.length) W1, J j W1 → W.heap.size ≤ W1.heap.size → YieldAt Fence.wide (n - 1) Tryz.prog l #[xs[j]] W1 fun e W' =>
      (e = .returned (.bool true) ∧ J (j + 1) W' ∧ (∀ k, (Value.slice oa xs.length c).ownBlock = some k → W'.heap[k]? = W1.heap[k]?) ∧ W1.heap.size ≤ W'.heap.size) ∨ (e = .returned (.bool false) ∧ Jx (j + 1) W')) (h0 : J 0 W) :
    CallsIn Fence.wide n Tryz.prog 155 #[.func (.yield l) #[] #[], .pointer (some ⟨vb, 0, none⟩)] W fun e W' => (∃ v, e = .returned v) ∧ (J xs.length W' ∨ ∃ j, j ≤ xs.length ∧ Jx j W') := by
  obtain ⟨N, hN⟩ : ∃ N, xs.length = N := ⟨_, rfl⟩
  rw [hN] at hv hrow hfs
  have cv : W.cell? ⟨vb, 0, none⟩ = some (.slice oa N c) := cell_of ((hW.block vb (Array.getElem?_eq_some_iff.1 hv).1).trans hv) rfl
  have HR := Lib.hid (And.intro (hrow.kept (fun k hk => hW.block k (hrow.lt k hk))) (fun k hk => Nat.lt_of_lt_of_le (hrow.lt k hk) hW.size))
  have HN := Lib.hid hN
  have HY := Lib.hid hY
  clear hv hrow hY hW hN
  refine callsIn_of_wp Tryz.func155 rfl trivial ?_ rfl
  simp only [Tryz.ntmps155, List.size_toArray, List.length_cons, List.length_nil, Nat.reduceAdd, Nat.reduceSub, Array.replicate_succ, Array.replicate_zero, List.push_toArray, List.append_toArray, List.nil_append, List.cons_append]
  gi_wp2
  gi_loopw [7] (fun i wr => ∃ j : Nat, j ≤ N ∧ i = .int .i64 j ∧ Hid (J j wr ∧ rowAt wr 156 1 (.slice oa N c) N xs ∧ W.heap.size ≤ wr.heap.size)) (fun i wr => N - (intOf i).toNat)
  case atStart => exact ⟨0, Nat.zero_le _, rfl, Lib.hid ⟨h0, HR.out.1, Nat.le_refl _⟩⟩
  case round =>
    obtain ⟨j, hj, rfl, HI⟩ := hrel
    by_cases hlt : j < N
    · have hjf : j < xs.length := by rw [HN.out]; exact hlt
      have hrw := HI.out.2.1
      obtain ⟨g, off, rfl⟩ := hrw.addr (by omega)
      obtain ⟨x, hx⟩ : ∃ x, xs[j] = x := ⟨_, rfl⟩
      have k0 : wr.cell? ⟨g, off + j, none⟩ = some x := by
        have := hrw.cells (g := g) (off := off) rfl j x (by rw [← hx]; exact List.getElem?_eq_getElem hjf)
        simpa [Go.WideShapes.add_plain] using this
      obtain ⟨fn, tmps, assign, body, hy, hR⟩ := HY.out j hjf wr HI.out.1 HI.out.2.2
      rw [hx] at hy
      have HRD := Lib.hid hR
      clear hrw hx hR
      gi_wp2
      refine HRD.out.mono ?_
      rintro e W3 (⟨rfl, hJ3, hk3, hs3⟩ | ⟨rfl, hJx3⟩)
      · have HJ3 : Hid (J (j + 1) W3 ∧ rowAt W3 156 1 (.slice (some ⟨g, off, none⟩) N c) N xs ∧ W.heap.size ≤ W3.heap.size) := Lib.hid ⟨hJ3, HI.out.2.1.kept (fun k hk => hk3 k (by rw [HN.out]; exact hk)), Nat.le_trans HI.out.2.2 hs3⟩
        clear hJ3 hk3 hs3
        gi_wp2
        exact ⟨⟨j + 1, by omega, by simp, HJ3⟩, by simp [intOf]; omega⟩
      · have HX3 : Hid (Jx (j + 1) W3) := Lib.hid hJx3
        clear hJx3
        gi_wp2
        refine bodyPost_ret (results_none rfl _ _ _) rfl ?_
        exact ⟨⟨_, rfl⟩, .inr ⟨j + 1, by rw [HN.out]; omega, HX3.out⟩⟩
    · obtain rfl : j = N := by omega
      have HE : Hid (J xs.length wr) := Lib.hid (by rw [HN.out]; exact HI.out.1)
      gi_wp2
      go_end0
      exact ⟨⟨_, rfl⟩, .inl HE.out⟩
theorem valsSegs_toldX (n : Nat) (hn : 1 ≤ n) (vb : Nat) (w : World) (xs : List Value) {oa : Option Addr} {c : Nat} (hv : w.heap[vb]? = some (.cells #[.slice oa xs.length c] 80 (0, 0))) (hrow : rowAt w 156 1 (.slice oa xs.length c) xs.length xs) (hfs : xs.length ≤ 1000000000)
    (X : Nat → Prop) (hX : ∀ k, (Value.slice oa xs.length c).ownBlock = some k → ¬ X k) :
    SeqToldX Fence.wide n Tryz.prog 155 #[.pointer (some ⟨vb, 0, none⟩)] encOne (fun _ T pre x _ => (xs[pre.length]? = some x ∧ pre = xs.take pre.length) ∧ ∀ k, ¬ T k) (fun ys => ys = xs) (fun pre => pre.length ≤ xs.length) xs.length X w := fun l J Jx W hW hs hJ hJx hY => by
  refine (valsSegsX_in n hn l vb w xs hv hrow hfs (fun j V => J (fun _ => False) (xs.take j) V) (fun j V => Jx (fun _ => False) (xs.take j) V ∧ j ≤ xs.length) W hW (fun j hj W1 h1 hz => ?_) (by
    have := hs (fun _ => False) W (Below.refl _ _) (fun _ hf => hf.elim)
    rwa [List.take_zero])).mono ?_
  · have htl : (xs.take j).length = j := by rw [List.length_take]; omega
    have ht1 : xs.take j ++ [xs[j]] = xs.take (j + 1) := (List.take_succ_eq_append_getElem hj).symm
    refine (hY (fun _ => False) (xs.take j) xs[j] W1 W1 (fun _ hf => hf.elim) h1 (Only.refl _ _) hz ⟨⟨by rw [htl]; exact List.getElem?_eq_getElem hj, by rw [htl]⟩, fun _ hf => hf⟩ (by rw [htl]; exact hj)).mono (fun e W' hr => ?_)
    rcases hr with ⟨h3, h4, h5⟩ | ⟨h3, h4, h5⟩
    · exact .inl ⟨h3, by rw [ht1] at h4; exact h4, fun k hk => h5.block k (by have := hrow.lt k hk; have := hW.size; omega) (fun hc => hX k hk hc.1), h5.size⟩
    · exact .inr ⟨h3, by rw [ht1] at h4; exact h4, hj⟩
  · rintro e W' ⟨he, h⟩
    refine ⟨he, ?_⟩
    rcases h with h | ⟨j, hj, h⟩
    · exact .inl ⟨fun _ => False, xs, rfl, by rwa [List.take_length] at h⟩
    · exact .inr ⟨fun _ => False, xs.take j, by show (xs.take j).length ≤ xs.length; rw [List.length_take]; omega, h.1⟩
end Go.Proofs.YtlgcoaeddeiegaaGreat
/- index: Find. -/
namespace Go.Proofs.YtlgcoaeddeiegaaGreat
open Go Go.RowKit
attribute [local go_sem] Oper.semAt_some

set_option maxRecDepth 100000 in
set_option maxHeartbeats 400000 in
theorem find1_b {w : World} {b : Nat} {a p off : Int} (h : w.heap[b]? = some (.cells #[.int .i64 off] 2 (0, 0))) :
    Calls Tryz.prog 194 #[.agg #[.int .i64 a, .int .i64 p], .pointer (some ⟨b, 0, none⟩)] w fun e w' => e = .returned (.bool (decide (off < a))) ∧ Below w.heap.size w w' := by
  obtain ⟨w1, hw1⟩ : ∃ W : World, W = w.alloc (.cells #[.int .i64 a, .int .i64 p] 262) := ⟨_, rfl⟩
  obtain ⟨b2, hb2⟩ : ∃ b, b = w.heap.size := ⟨_, rfl⟩
  have h12 : w1.heap[b2]? = some (.cells #[.int .i64 a, .int .i64 p] 262 (0, 0)) := by rw [hw1, hb2]; exact alloc_cells _ _ _
  have hbl : Below w.heap.size w w1 := by rw [hw1]; exact (Below.refl _ _).alloc (Nat.le_refl _) _
  have k0 : w1.cell? ⟨b2, 0, none⟩ = some (.int .i64 a) := cell_of h12 rfl
  have k1 : w1.cell? ⟨b, 0, none⟩ = some (.int .i64 off) := cell_of ((hbl.block b (Array.getElem?_eq_some_iff.1 h).1).trans h) rfl
  have HB := Lib.hid hbl
  obtain ⟨q, hq⟩ : ∃ q, decide (off < a) = q := ⟨_, rfl⟩
  rw [hq]
  clear h h12 hbl
  go_enter Tryz.func194, Tryz.ntmps194
  go_upto_region 1 with fail
  rw [← hw1, ← hb2]
  clear hw1 hb2
  go_wp2_with fail
  go_ret
  exact ⟨rfl, HB.out⟩
structure LastI (w : World) (b3 b2 bo x step : Nat) (sv : Value) (l : List Sp) (off : Int) : Prop where
  three : w.heap[b3]? = some (.cells #[.func (.func 194) #[] #[.pointer (some ⟨bo, 0, none⟩)]] 312 (0, 0))
  two : w.heap[b2]? = some (.cells #[.pointer (some ⟨x, 0, none⟩)] 246 (0, 0))
  offs : w.heap[bo]? = some (.cells #[.int .i64 off] 2 (0, 0))
  idx : IdxI w x step sv l
theorem LastI.later {w w' : World} {b3 b2 bo x step : Nat} {sv : Value} {l : List Sp} {off : Int} (h : LastI w b3 b2 bo x step sv l off) (hb : Below w.heap.size w w') : LastI w' b3 b2 bo x step sv l off :=
  ⟨(hb.block _ (Array.getElem?_eq_some_iff.1 h.three).1).trans h.three, (hb.block _ (Array.getElem?_eq_some_iff.1 h.two).1).trans h.two, (hb.block _ (Array.getElem?_eq_some_iff.1 h.offs).1).trans h.offs, h.idx.later hb⟩
set_option maxRecDepth 100000 in
set_option maxHeartbeats 1000000 in
theorem last1_b {w : World} {b3 b2 bo x step i : Nat} {sv : Value} {l : List Sp} {off : Int} (h : LastI w b3 b2 bo x step sv l off) (hi : i < l.length) :
    Calls Tryz.prog 214 #[.int .i64 (i : Int), .pointer (some ⟨b3, 0, none⟩), .pointer (some ⟨b2, 0, none⟩)] w fun e w' => e = .returned (.bool (decide (off < (l[i].1 : Int)))) ∧ Below w.heap.size w w' := by
  obtain ⟨n, hn⟩ : ∃ n, l.length = n := ⟨_, rfl⟩
  obtain ⟨oa, c, rfl, -⟩ := h.idx.row.shape
  rw [hn] at h
  obtain ⟨g, o, rfl, c0, c1⟩ := h.idx.cells hn hi
  have k3 : w.cell? ⟨b3, 0, none⟩ = some (.func (.func 194) #[] #[.pointer (some ⟨bo, 0, none⟩)]) := cell_of h.three rfl
  have k2 : w.cell? ⟨b2, 0, none⟩ = some (.pointer (some ⟨x, 0, none⟩)) := cell_of h.two rfl
  have k1 : w.cell? ⟨x, 1, none⟩ = some (.slice (some ⟨g, o, none⟩) n c) := cell_of h.idx.head rfl
  obtain ⟨y, hy⟩ : ∃ y, l[i] = y := ⟨_, rfl⟩
  rw [hy] at c0 c1 ⊢
  have hin : i < n := by omega
  have HF := Lib.hid (fun (W : World) (hb : Below w.heap.size w W) => find1_b (a := (y.1 : Int)) (p := (y.2 : Int)) ((hb.block bo (Array.getElem?_eq_some_iff.1 h.offs).1).trans h.offs))
  clear h hn hi hy
  go_enter Tryz.func214, Tryz.ntmps214
  go_upto_region 1 with fail
  go_region_with (go_at_call 194; refine (HF.out _ (by first | exact Below.refl _ _ | exact ⟨rfl, rfl, rfl, Nat.le_refl _, fun _ _ => rfl⟩)).mono ?_; rintro e w2 ⟨rfl, hb2⟩; have HB2 := Lib.hid hb2; clear hb2)
  all_goals
    go_wp2_with fail
    go_ret
    exact ⟨rfl, ⟨HB2.out.os, HB2.out.tape, HB2.out.output, HB2.out.size, HB2.out.block⟩⟩
set_option maxRecDepth 100000 in
set_option maxHeartbeats 1000000 in
theorem search_b {w : World} {b3 b2 bo x step n : Nat} {sv : Value} {l : List Sp} {off : Int} (h : LastI w b3 b2 bo x step sv l off) (hn : l.length = n) (hl : n ≤ 1000000) (hm : ∀ i j (hi : i < l.length) (hj : j < l.length), i < j → l[i].1 < l[j].1) :
    Calls Tryz.prog 213 #[.int .i64 (n : Int), .func (.func 214) #[] #[.pointer (some ⟨b3, 0, none⟩), .pointer (some ⟨b2, 0, none⟩)]] w fun e w' => ∃ r : Nat, e = .returned (.int .i64 (r : Int)) ∧ CutAt l off r ∧ Below w.heap.size w w' := by
  have HL := Lib.hid (And.intro h (And.intro hn hm))
  clear h hn hm
  go_enter Tryz.func213, Tryz.ntmps213
  go_wp2_with fail
  go_loopw [5, 6] (fun s t wr => ∃ i j : Nat, s = .int .i64 (i : Int) ∧ t = .int .i64 (j : Int) ∧ i ≤ j ∧ j ≤ n ∧ Hid ((∀ k (h : k < l.length), k < i → (l[k].1 : Int) ≤ off) ∧ (∀ k (h : k < l.length), j ≤ k → off < (l[k].1 : Int)) ∧ Below w.heap.size w wr)) (fun s t _ => (intOf t).toNat - (intOf s).toNat)
  case atStart => exact ⟨0, n, rfl, rfl, Nat.zero_le _, Nat.le_refl _, Lib.hid ⟨fun k _ h => by omega, fun k h1 h2 => by have := HL.out.2.1; omega, Below.refl _ _⟩⟩
  case round =>
    obtain ⟨i, j, rfl, rfl, hij, hjn, HI⟩ := hrel
    by_cases hlt : i < j
    · obtain ⟨h, hh⟩ : ∃ h, (i + j) / 2 = h := ⟨_, rfl⟩
      have hhl : i ≤ h ∧ h < j := by omega
      have hdv : ((i : Int) + (j : Int)) / 2 = (h : Int) := by omega
      have hhL : h < l.length := by have := HL.out.2.1; omega
      have HC := Lib.hid (last1_b (HL.out.1.later HI.out.2.2) hhL)
      obtain ⟨q, hq⟩ : ∃ q, decide (off < (l[h].1 : Int)) = q := ⟨_, rfl⟩
      rw [hq] at HC
      have HQ := Lib.hid hq
      clear hh hq
      go_wp2_with fail
      refine HC.out.mono ?_
      rintro e w2 ⟨rfl, hb2⟩
      have HB2 := Lib.hid (HI.out.2.2.trans (hb2.mono HI.out.2.2.size))
      clear hb2 HC
      cases q with
      | false =>
        go_wp2_with fail
        refine ⟨⟨h + 1, j, by simp, rfl, by omega, hjn, Lib.hid ⟨fun k hk hkh => ?_, HI.out.2.1, HB2.out⟩⟩, by simp [intOf]; omega⟩
        have h1 := of_decide_eq_false HQ.out
        by_cases hkl : k < h
        · have h2 := HL.out.2.2 k h hk hhL hkl
          omega
        · obtain rfl : k = h := by omega
          omega
      | true =>
        go_wp2_with fail
        refine ⟨⟨i, h, rfl, rfl, hhl.1, by omega, Lib.hid ⟨HI.out.1, fun k hk hkh => ?_, HB2.out⟩⟩, by simp [intOf]; omega⟩
        have h1 := of_decide_eq_true HQ.out
        by_cases hkl : h < k
        · have h2 := HL.out.2.2 h k hhL hk hkl
          omega
        · obtain rfl : k = h := by omega
          exact h1
    · obtain rfl : i = j := by omega
      have HI' := HI
      clear HI
      go_wp2_with fail
      go_ret
      exact ⟨i, rfl, ⟨by rw [HL.out.2.1]; exact hjn, HI'.out.1, HI'.out.2.1⟩, HI'.out.2.2⟩
def SpotIs (w : World) (l : List Sp) (off : Int) (e : Ending) (w' : World) : Prop :=
  ∃ r, CutAt l off r ∧ e = .returned (.tuple #[.agg #[.int .i64 ((spotAt l r).1 : Int), .int .i64 ((spotAt l r).2 : Int)], .bool (decide (0 < r))]) ∧ Below w.heap.size w w'
set_option maxRecDepth 100000 in
set_option maxHeartbeats 2000000 in
theorem last_b {w : World} {bo x step : Nat} {sv : Value} {l : List Sp} {off : Int} (hx : IdxI w x step sv l) (ho : w.heap[bo]? = some (.cells #[.int .i64 off] 2 (0, 0))) (hst : 1 ≤ step) (hl : l.length ≤ 1000000) (hm : ∀ i j (hi : i < l.length) (hj : j < l.length), i < j → l[i].1 < l[j].1) :
    Calls Tryz.prog 193 #[.pointer (some ⟨x, 0, none⟩), .func (.func 194) #[] #[.pointer (some ⟨bo, 0, none⟩)]] w fun e w' => SpotIs w l off e w' := by
  have hmf : ∀ (fn : Fn) (first cap : Array Value) (W : World), (Instr.makeFunc fn first cap).run Tryz.prog W = .ok (.func fn first cap) W := fun _ _ _ _ => rfl
  obtain ⟨w1, hw1⟩ : ∃ W : World, W = ((w.alloc (.cells #[.pointer (some ⟨x, 0, none⟩)] 246)).alloc (.cells #[.func (.func 194) #[] #[.pointer (some ⟨bo, 0, none⟩)]] 312)).alloc (.cells #[.int .i64 0, .int .i64 0] 262) := ⟨_, rfl⟩
  obtain ⟨b2, hb2⟩ : ∃ b, b = w.heap.size := ⟨_, rfl⟩
  obtain ⟨b3, hb3⟩ : ∃ b, b = w.heap.size + 1 := ⟨_, rfl⟩
  obtain ⟨b4, hb4⟩ : ∃ b, b = w.heap.size + 1 + 1 := ⟨_, rfl⟩
  have hbl : Below w.heap.size w w1 := by rw [hw1]; exact (((Below.refl _ _).alloc (Nat.le_refl _) _).alloc (by simp) _).alloc (by simp; omega) _
  have h2 : w1.heap[b2]? = some (.cells #[.pointer (some ⟨x, 0, none⟩)] 246 (0, 0)) := by
    rw [hw1, hb2]
    exact (Below.heap_alloc _ _ _ (by simp; omega)).trans ((Below.heap_alloc _ _ _ (by simp)).trans (alloc_cells _ _ _))
  have h3 : w1.heap[b3]? = some (.cells #[.func (.func 194) #[] #[.pointer (some ⟨bo, 0, none⟩)]] 312 (0, 0)) := by
    rw [hw1, hb3]
    have := alloc_cells (w.alloc (.cells #[.pointer (some ⟨x, 0, none⟩)] 246)) #[.func (.func 194) #[] #[.pointer (some ⟨bo, 0, none⟩)]] 312
    rw [World.size_alloc] at this
    exact (Below.heap_alloc _ _ _ (by simp)).trans this
  have h4 : w1.heap[b4]? = some (.cells #[.int .i64 0, .int .i64 0] 262 (0, 0)) := by
    rw [hw1, hb4]
    have := alloc_cells ((w.alloc (.cells #[.pointer (some ⟨x, 0, none⟩)] 246)).alloc (.cells #[.func (.func 194) #[] #[.pointer (some ⟨bo, 0, none⟩)]] 312)) #[.int .i64 0, .int .i64 0] 262
    rwa [World.size_alloc, World.size_alloc] at this
  have hL : LastI w1 b3 b2 bo x step sv l off := ⟨h3, h2, (hbl.block bo (Array.getElem?_eq_some_iff.1 ho).1).trans ho, hx.later hbl⟩
  obtain ⟨n, hn⟩ : ∃ n, l.length = n := ⟨_, rfl⟩
  obtain ⟨oa, c, rfl, -⟩ := hL.idx.row.shape
  rw [hn] at hL hl
  have HN := Lib.hid (idxNone_b hL.idx hst)
  have HS := Lib.hid (search_b hL hn hl hm)
  have k2 : w1.cell? ⟨b2, 0, none⟩ = some (.pointer (some ⟨x, 0, none⟩)) := cell_of h2 rfl
  have k1 : w1.cell? ⟨x, 1, none⟩ = some (.slice oa n c) := cell_of hL.idx.head rfl
  have H1 := Lib.hid (And.intro hL (And.intro hbl (And.intro h4 (And.intro hn (And.intro h2 hb4)))))
  clear hx ho hm hbl h2 h3 h4 hL hn
  go_enter Tryz.func193, Tryz.ntmps193
  go_upto_region 1 with fail
  rw [← hw1, ← hb4, ← hb3, ← hb2]
  clear hw1 hb4 hb3 hb2
  go_wp2_with fail
  refine HN.out.mono ?_
  rintro e w1' ⟨rfl, hw⟩
  obtain rfl := hw.symm
  clear hw HN
  go_wp2_with fail
  refine HS.out.mono ?_
  rintro e w2 ⟨r, rfl, hcut, hb12⟩
  have hbw2 := H1.out.2.1.trans (hb12.mono H1.out.2.1.size)
  have h42 := (hb12.block b4 (Array.getElem?_eq_some_iff.1 H1.out.2.2.1).1).trans H1.out.2.2.1
  have hL2 := H1.out.1.later hb12
  have HC := Lib.hid (And.intro hcut hbw2)
  have k21 : w2.cell? ⟨b2, 0, none⟩ = some (.pointer (some ⟨x, 0, none⟩)) := cell_of hL2.two rfl
  have k11 : w2.cell? ⟨x, 1, none⟩ = some (.slice oa n c) := cell_of hL2.idx.head rfl
  have q0 : w2.cell? ⟨b4, 0, none⟩ = some (.int .i64 0) := cell_of h42 rfl
  have q1 : w2.cell? ⟨b4, 1, none⟩ = some (.int .i64 0) := cell_of h42 rfl
  have z0 : w2.frozen? ⟨b4, 0, none⟩ = false := free_of h42 _
  have z1 : w2.frozen? ⟨b4, 1, none⟩ = false := free_of h42 _
  have HE := Lib.hid (fun (u v : Nat) => (show (((w2.setCell ⟨b4, 0, none⟩ (.int .i64 (u : Int))).setCell ⟨b4, 1, none⟩ (.int .i64 (v : Int))).heap[b4]? = some (.cells #[.int .i64 (u : Int), .int .i64 (v : Int)] 262 (0, 0))) ∧ Below w.heap.size w ((w2.setCell ⟨b4, 0, none⟩ (.int .i64 (u : Int))).setCell ⟨b4, 1, none⟩ (.int .i64 (v : Int))) from ⟨heap_setCell_here _ (heap_setCell_here _ h42), (hbw2.setCell (p := ⟨b4, 0, none⟩) (by show w.heap.size ≤ b4; have := H1.out.2.2.2.2.2; omega) _).setCell (p := ⟨b4, 1, none⟩) (by show w.heap.size ≤ b4; have := H1.out.2.2.2.2.2; omega) _⟩))
  by_cases hr0 : r = 0
  · subst hr0
    clear hcut hb12 hbw2 h42 hL2
    go_wp2_with fail
    have he := HE.out 0 0
    obtain ⟨wz, hwz⟩ : ∃ W : World, W = (w2.setCell ⟨b4, 0, none⟩ (.int .i64 (0 : Int))).setCell ⟨b4, 1, none⟩ (.int .i64 (0 : Int)) := ⟨_, rfl⟩
    have he : wz.heap[b4]? = some (.cells #[.int .i64 (0 : Int), .int .i64 (0 : Int)] 262 (0, 0)) ∧ Below w.heap.size w wz := by rw [hwz]; exact he
    rw [← hwz]
    have y0 := cell_of (i := 0) he.1 rfl
    have y1 := cell_of (i := 1) he.1 rfl
    refine ⟨rfl, .tuple #[.agg #[.int .i64 0, .int .i64 0], .bool false], ?_, 0, HC.out.1, rfl, he.2⟩
    simp [results, Tryz.results193, go_sem, y0, y1]
  · have hr1 : ((r : Int) == 0) = false := by rw [beq_eq_false_iff_ne]; omega
    have hr2 : (r == 0) = false := by rw [beq_eq_false_iff_ne]; omega
    have hrl : r - 1 < l.length := by have := hcut.1; omega
    obtain ⟨g, o, rfl, c0, c1⟩ := hL2.idx.cells H1.out.2.2.2.1 hrl
    have hsp : spotAt l r = l[r - 1] := by unfold spotAt; rw [if_neg hr0, List.getD_eq_getElem?_getD, List.getElem?_eq_getElem hrl]; rfl
    obtain ⟨y, hy⟩ : ∃ y, l[r - 1] = y := ⟨_, rfl⟩
    rw [hy] at c0 c1 hsp
    have HSP := Lib.hid hsp
    have hrn : r ≤ n := by have := hcut.1; have := H1.out.2.2.2.1; omega
    obtain ⟨r1, hr1e⟩ : ∃ r1, r = r1 + 1 := ⟨r - 1, by omega⟩
    have e1 : r - 1 = r1 := by omega
    rw [e1] at c0 c1
    have hcast : (r : Int) - 1 = (r1 : Int) := by omega
    have hr1l : r1 < n := by omega
    have hpos : decide (0 < r) = true := decide_eq_true (by omega)
    have HPOS := Lib.hid hpos
    clear hcut hb12 hbw2 h42 hL2 hrl hsp hy hr1e e1 hpos hr0
    go_wp2_with fail
    have he := HE.out y.1 y.2
    obtain ⟨wz, hwz⟩ : ∃ W : World, W = (w2.setCell ⟨b4, 0, none⟩ (.int .i64 (y.1 : Int))).setCell ⟨b4, 1, none⟩ (.int .i64 (y.2 : Int)) := ⟨_, rfl⟩
    have he : wz.heap[b4]? = some (.cells #[.int .i64 (y.1 : Int), .int .i64 (y.2 : Int)] 262 (0, 0)) ∧ Below w.heap.size w wz := by rw [hwz]; exact he
    rw [← hwz]
    have y0 := cell_of (i := 0) he.1 rfl
    have y1 := cell_of (i := 1) he.1 rfl
    refine ⟨rfl, .tuple #[.agg #[.int .i64 (y.1 : Int), .int .i64 (y.2 : Int)], .bool true], ?_, r, HC.out.1, by rw [HSP.out, HPOS.out], he.2⟩
    simp [results, Tryz.results193, go_sem, y0, y1]
set_option maxRecDepth 100000 in
set_option maxHeartbeats 1000000 in
theorem spotFind_b {w : World} {x step : Nat} {sv : Value} {l : List Sp} {off : Int} (hx : IdxI w x step sv l) (hst : 1 ≤ step) (hl : l.length ≤ 1000000) (hm : ∀ i j (hi : i < l.length) (hj : j < l.length), i < j → l[i].1 < l[j].1) :
    Calls Tryz.prog 156 #[.pointer (some ⟨x, 0, none⟩), .int .i64 off] w fun e w' => SpotIs w l off e w' := by
  have hmf : ∀ (fn : Fn) (first cap : Array Value) (W : World), (Instr.makeFunc fn first cap).run Tryz.prog W = .ok (.func fn first cap) W := fun _ _ _ _ => rfl
  obtain ⟨w1, hw1⟩ : ∃ W : World, W = (w.alloc (.cells #[.int .i64 off] 2)).alloc (.cells #[.int .i64 0, .int .i64 0] 262) := ⟨_, rfl⟩
  obtain ⟨b3, hb3⟩ : ∃ b, b = w.heap.size := ⟨_, rfl⟩
  obtain ⟨b4, hb4⟩ : ∃ b, b = w.heap.size + 1 := ⟨_, rfl⟩
  have hbl : Below w.heap.size w w1 := by rw [hw1]; exact ((Below.refl _ _).alloc (Nat.le_refl _) _).alloc (by simp) _
  have h3 : w1.heap[b3]? = some (.cells #[.int .i64 off] 2 (0, 0)) := by rw [hw1, hb3]; exact (Below.heap_alloc _ _ _ (by simp)).trans (alloc_cells _ _ _)
  have h4 : w1.heap[b4]? = some (.cells #[.int .i64 0, .int .i64 0] 262 (0, 0)) := by
    rw [hw1, hb4]
    have := alloc_cells (w.alloc (.cells #[.int .i64 off] 2)) #[.int .i64 0, .int .i64 0] 262
    rwa [World.size_alloc] at this
  have HLB := Lib.hid (last_b (hx.later hbl) h3 hst hl hm)
  have H1 := Lib.hid (And.intro hbl (And.intro h4 hb4))
  clear hx hm hbl h3 h4
  go_enter Tryz.func156, Tryz.ntmps156
  go_upto_region 1 with fail
  rw [← hw1, ← hb4, ← hb3]
  clear hw1 hb4 hb3
  go_wp2_with fail
  refine HLB.out.mono ?_
  rintro e w2 ⟨r, hcut, rfl, hb2⟩
  obtain ⟨u, hu⟩ : ∃ u, (spotAt l r).1 = u := ⟨_, rfl⟩
  obtain ⟨v, hv⟩ : ∃ v, (spotAt l r).2 = v := ⟨_, rfl⟩
  obtain ⟨q, hq⟩ : ∃ q, decide (0 < r) = q := ⟨_, rfl⟩
  rw [hu, hv, hq]
  have HU := Lib.hid (And.intro hu (And.intro hv (And.intro hq hcut)))
  have h42 := (hb2.block b4 (Array.getElem?_eq_some_iff.1 H1.out.2.1).1).trans H1.out.2.1
  have hbw2 := H1.out.1.trans (hb2.mono H1.out.1.size)
  have q0 : w2.cell? ⟨b4, 0, none⟩ = some (.int .i64 0) := cell_of h42 rfl
  have q1 : w2.cell? ⟨b4, 1, none⟩ = some (.int .i64 0) := cell_of h42 rfl
  have z0 : w2.frozen? ⟨b4, 0, none⟩ = false := free_of h42 _
  have z1 : w2.frozen? ⟨b4, 1, none⟩ = false := free_of h42 _
  have H2 := Lib.hid (And.intro h42 hbw2)
  clear hu hv hq hcut hb2 h42 hbw2 HLB
  go_wp2_with fail
  obtain ⟨wz, hwz⟩ : ∃ W : World, W = (w2.setCell ⟨b4, 0, none⟩ (.int .i64 (u : Int))).setCell ⟨b4, 1, none⟩ (.int .i64 (v : Int)) := ⟨_, rfl⟩
  have he : wz.heap[b4]? = some (.cells #[.int .i64 (u : Int), .int .i64 (v : Int)] 262 (0, 0)) ∧ Below w.heap.size w wz := by
    rw [hwz]
    exact ⟨heap_setCell_here _ (heap_setCell_here _ H2.out.1), (H2.out.2.setCell (p := ⟨b4, 0, none⟩) (by show w.heap.size ≤ b4; have := H1.out.2.2; omega) _).setCell (p := ⟨b4, 1, none⟩) (by show w.heap.size ≤ b4; have := H1.out.2.2; omega) _⟩
  rw [← hwz]
  have y0 := cell_of (i := 0) he.1 rfl
  have y1 := cell_of (i := 1) he.1 rfl
  refine ⟨rfl, .tuple #[.agg #[.int .i64 (u : Int), .int .i64 (v : Int)], .bool q], ?_, r, HU.out.2.2.2, by rw [HU.out.1, HU.out.2.1, HU.out.2.2.1], he.2⟩
  simp [results, Tryz.results156, go_sem, y0, y1]
end Go.Proofs.YtlgcoaeddeiegaaGreat
/- record: All, where the rounds of the range over it may write to blocks ahead of it. -/
namespace Go.Proofs.YtlgcoaeddeiegaaGreat
open Go Go.RowKit
attribute [local go_sem] Oper.semAt_some

def AllAt (w : World) (b1 : Nat) (oa : Option Addr) (c : Nat) (D : List UInt8) : Prop := w.heap[b1]? = some (.cells #[.slice oa D.length c] 39 (0, 0)) ∧ rowAt w 5 1 (.slice oa D.length c) D.length (byteCells D)
def AllKeep (b1 : Nat) (oa : Option Addr) (n c : Nat) (W W' : World) : Prop := W'.heap[b1]? = W.heap[b1]? ∧ ∀ k, (Value.slice oa n c).ownBlock = some k → W'.heap[k]? = W.heap[k]?
theorem AllAt.keep {w w' : World} {b1 c : Nat} {oa : Option Addr} {D : List UInt8} (h : AllAt w b1 oa c D) (hk : AllKeep b1 oa D.length c w w') : AllAt w' b1 oa c D :=
  ⟨hk.1.trans h.1, h.2.kept hk.2⟩
theorem AllAt.later {w w' : World} {b1 c : Nat} {oa : Option Addr} {D : List UInt8} (h : AllAt w b1 oa c D) (hb : Below w.heap.size w w') : AllAt w' b1 oa c D :=
  ⟨(hb.block b1 (Array.getElem?_eq_some_iff.1 h.1).1).trans h.1, h.2.kept (fun k hk => hb.block k (h.2.lt k hk))⟩
set_option maxRecDepth 100000 in
set_option maxHeartbeats 4000000 in
theorem allInX (n : Nat) (hn : 1 ≤ n) (l b1 : Nat) (w : World) (L : List Bat) (tl : List UInt8) (hok : BatsOk L tl) {oa : Option Addr} {c : Nat} (hall : AllAt w b1 oa c (batsT L ++ tl)) (hsz : (batsT L ++ tl).length ≤ 1000000000) (J Jx : Nat → World → Prop) (W : World) (hW : Below w.heap.size w W)
    (hJ : ∀ j A B, J j A → Below A.heap.size A B → J j B)
    (hY : ∀ j x Wp W1, J j Wp → Below Wp.heap.size Wp W1 → W.heap.size ≤ Wp.heap.size → BatIs L Wp.heap.size j x W1 → YieldAt Fence.wide (n - 1) Tryz.prog l (encB x) W1 fun e W' =>
      (e = .returned (.bool true) ∧ J (j + 1) W' ∧ AllKeep b1 oa (batsT L ++ tl).length c W1 W' ∧ W1.heap.size ≤ W'.heap.size) ∨ (e = .returned (.bool false) ∧ Jx (j + 1) W')) (h0 : J 0 W) :
    CallsIn Fence.wide n Tryz.prog 84 #[.func (.yield l) #[] #[], .pointer (some ⟨b1, 0, none⟩)] W fun e W' => (∃ v, e = .returned v) ∧ (J L.length W' ∨ ∃ j, j ≤ L.length ∧ Jx j W') := by
  obtain ⟨hbx, hrow⟩ := hall
  obtain ⟨D, hD⟩ : ∃ D, batsT L ++ tl = D := ⟨_, rfl⟩
  obtain ⟨N, hN⟩ : ∃ N, D.length = N := ⟨_, rfl⟩
  obtain ⟨M, hM⟩ : ∃ M, L.length = M := ⟨_, rfl⟩
  rw [hD] at hbx hrow hsz hY
  rw [hN] at hbx hrow hsz hY
  have cv : W.cell? ⟨b1, 0, none⟩ = some (.slice oa N c) := cell_of ((hW.block b1 (Array.getElem?_eq_some_iff.1 hbx).1).trans hbx) rfl
  have HA0 : Hid (AllAt W b1 oa c D) := Lib.hid ⟨by rw [hN]; exact (hW.block b1 (Array.getElem?_eq_some_iff.1 hbx).1).trans hbx, by rw [hN]; exact hrow.kept (fun k hk => hW.block k (hrow.lt k hk))⟩
  have HN := Lib.hid (And.intro hD (And.intro hN (And.intro hM hok)))
  have HY := Lib.hid hY
  have HJ := Lib.hid hJ
  have HW := Lib.hid hW
  have hp : ∀ j, posT L j ≤ N := fun j => by
    have h1 := posT_le (L := L) (j := j)
    rw [← hN, ← hD, List.length_append]
    omega
  have HP := Lib.hid hp
  clear hbx hrow hD hN hM hok hY hJ hW hp
  refine callsIn_of_wp Tryz.func84 rfl trivial ?_ rfl
  have f1 : Fence.wide.fn 85 := trivial
  simp only [Tryz.ntmps84, List.size_toArray, List.length_cons, List.length_nil, Nat.reduceAdd, Nat.reduceSub, Array.replicate_succ, Array.replicate_zero, List.push_toArray, List.append_toArray, List.nil_append, List.cons_append]
  gi_wp2_with fail
  gi_loopw [3] (fun s wr => ∃ (j p : Nat), s = .int .i64 (p : Int) ∧ j ≤ M ∧ p ≤ N ∧ Hid (p = posT L j ∧ J j wr ∧ AllAt wr b1 oa c D ∧ W.heap.size ≤ wr.heap.size)) (fun s _ => N - (intOf s).toNat)
  case atStart => exact ⟨0, 0, rfl, Nat.zero_le _, Nat.zero_le _, Lib.hid ⟨rfl, h0, HA0.out, Nat.le_refl _⟩⟩
  case round =>
    obtain ⟨j, p, rfl, hj, hpN, HI⟩ := hrel
    have har := HI.out.2.2.1
    unfold AllAt at har
    rw [HN.out.2.1] at har
    have hrd : readAt wr 1 (.slice oa N c) N (byteCells D) := har.2.read
    have kb : wr.cell? ⟨b1, 0, none⟩ = some (.slice oa N c) := cell_of har.1 rfl
    clear har
    by_cases hlt : j < M
    · have hjL : j < L.length := by rw [HN.out.2.2.1]; exact hlt
      have hat := bats_at hjL tl
      rw [HN.out.1, ← HI.out.1] at hat
      have hgood := HN.out.2.2.2.good L[j] (List.getElem_mem hjL)
      have HRD := Lib.hid (readOk_b HN.out.2.1 hrd hpN hsz hat hgood)
      have hsucc := posT_succ hjL
      have hpn := HP.out (j + 1)
      obtain ⟨bb, hbb⟩ : ∃ b, L[j] = b := ⟨_, rfl⟩
      rw [hbb] at hgood hsucc
      rw [hbb] at HRD
      rw [hsucc, ← HI.out.1] at hpn
      obtain ⟨sz, hsz2⟩ : ∃ s, rcsSize bb.2 = s := ⟨_, rfl⟩
      have hsz32 := hgood.pos.2
      have hsz64 := hgood.size
      rw [hsz2] at hpn hsz32 hsz64
      have HB := Lib.hid (And.intro hsz2 (And.intro hsucc hbb))
      clear hrd hat hgood hsucc hbb hsz2
      gi_wp2_with fail
      refine (callsIn_wide.2 HRD.out).mono ?_
      rintro e w2 ⟨v, xs, rfl, hxs, hnr⟩
      obtain ⟨ov, cv', hve, -⟩ := hnr.row.shape
      subst hve
      unfold batchV
      rw [HB.out.1]
      obtain ⟨w3, hw3⟩ : ∃ V : World, V = w2.alloc (.cells #[.int .i64 bb.1, .slice ov xs.length cv'] 168) := ⟨_, rfl⟩
      obtain ⟨b4, hb4⟩ : ∃ b, b = w2.heap.size := ⟨_, rfl⟩
      have h34 : w3.heap[b4]? = some (.cells #[.int .i64 bb.1, .slice ov xs.length cv'] 168 (0, 0)) := by rw [hw3, hb4]; exact alloc_cells _ _ _
      have hb23 : Below w2.heap.size w2 w3 := by rw [hw3]; exact (Below.refl _ _).alloc (Nat.le_refl _) _
      have k0 : w3.cell? ⟨b4, 0, none⟩ = some (.int .i64 bb.1) := cell_of h34 rfl
      have k1 : w3.cell? ⟨b4, 1, none⟩ = some (.slice ov xs.length cv') := cell_of h34 rfl
      have hbr3 : Below wr.heap.size wr w3 := hnr.below.trans (hb23.mono hnr.below.size)
      have hbat : BatIs L wr.heap.size j ⟨p, bb.1, ov, cv', xs⟩ w3 := ⟨hjL, HI.out.1, by rw [HB.out.2.2], by rw [HB.out.2.2]; exact hxs, (hnr.from' (Nat.le_refl _)).later hb23⟩
      obtain ⟨fn, tmps, assign, body, hy, hRy⟩ := HY.out j _ wr w3 HI.out.2.1 hbr3 HI.out.2.2.2 hbat
      have HRY := Lib.hid hRy
      have H3 := Lib.hid hbr3
      unfold encB at hy
      dsimp only at hy
      clear hxs hnr h34 hb23 hbr3 hbat hRy kb HRD
      gi_upto_region 2 with fail
      rw [← hw3, ← hb4]
      clear hw3 hb4
      gi_wp2_with fail
      refine HRY.out.mono ?_
      rintro e W3 (⟨rfl, hJ3, hk3, hs3⟩ | ⟨rfl, hJx3⟩)
      · have HJ3 := Lib.hid (And.intro hJ3 (And.intro hk3 hs3))
        clear hJ3 hk3 hs3
        gi_wp2_with fail
        have hk3 := HJ3.out.2.1
        rw [← HN.out.2.1] at hk3
        refine ⟨⟨j + 1, p + sz, by simp, by omega, by omega, Lib.hid ⟨by rw [HB.out.2.1, ← HI.out.1, HB.out.1], HJ3.out.1, (HI.out.2.2.1.later H3.out).keep hk3, ?_⟩⟩, by simp [intOf]; omega⟩
        have h1 := HJ3.out.2.2
        have h2 := H3.out.size
        have h3 := HI.out.2.2.2
        omega
      · have HX3 := Lib.hid hJx3
        clear hJx3
        gi_wp2_with fail
        refine bodyPost_ret (results_none rfl _ _ _) rfl ?_
        exact ⟨⟨_, rfl⟩, .inr ⟨j + 1, by omega, HX3.out⟩⟩
    · obtain rfl : j = M := by omega
      have hend := bats_end L tl
      rw [HN.out.1, HN.out.2.2.1, ← HI.out.1] at hend
      have HJE : Hid (J L.length wr) := Lib.hid (by rw [HN.out.2.2.1]; exact HI.out.2.1)
      have HHJ := HJ
      rcases HN.out.2.2.2.rest with htl | htl
      · have HRD := Lib.hid (readEnd_b HN.out.2.1 hrd hpN hsz (by rw [hend]; exact htl))
        clear hrd hend htl
        gi_wp2_with fail
        refine (callsIn_wide.2 HRD.out).mono ?_
        rintro e w2 ⟨rfl, hb2⟩
        have HB := Lib.hid ((hb2.trans ((Below.refl _ _).alloc (Nat.le_refl _) (.cells #[.int .i64 0, .slice none 0 0] 168) |>.mono hb2.size)))
        clear hb2 kb HRD
        unfold batchNo
        gi_wp2_with fail
        refine ⟨fun f hf => (by cases hf), ?_⟩
        gi_wp2_with fail
        refine bodyPost_ret (results_none rfl _ _ _) rfl ?_
        exact ⟨⟨_, rfl⟩, .inl (HHJ.out _ _ _ HJE.out HB.out)⟩
      · have HRD := Lib.hid (readTorn_b HN.out.2.1 hrd hpN hsz (by rw [hend]; exact htl))
        clear hrd hend htl
        gi_wp2_with fail
        refine (callsIn_wide.2 HRD.out).mono ?_
        rintro e w2 ⟨rfl, hb2⟩
        have HB := Lib.hid ((hb2.trans ((Below.refl _ _).alloc (Nat.le_refl _) (.cells #[.int .i64 0, .slice none 0 0] 168) |>.mono hb2.size)))
        clear hb2 kb HRD
        unfold batchNo
        gi_wp2_with fail
        refine ⟨fun f hf => (by cases hf), ?_⟩
        gi_wp2_with fail
        refine bodyPost_ret (results_none rfl _ _ _) rfl ?_
        exact ⟨⟨_, rfl⟩, .inl (HHJ.out _ _ _ HJE.out HB.out)⟩
theorem all_toldX (n : Nat) (hn : 1 ≤ n) (b1 : Nat) (w : World) (L : List Bat) (tl : List UInt8) (hok : BatsOk L tl) {oa : Option Addr} {c : Nat} (hall : AllAt w b1 oa c (batsT L ++ tl)) (hsz : (batsT L ++ tl).length ≤ 1000000000)
    (X : Nat → Prop) (hX1 : ¬ X b1) (hX2 : ∀ k, (Value.slice oa (batsT L ++ tl).length c).ownBlock = some k → ¬ X k) :
    SeqToldX Fence.wide n Tryz.prog 84 #[.pointer (some ⟨b1, 0, none⟩)] encB (fun n₀ T pre x W => BatIs L n₀ pre.length x W ∧ ∀ k, ¬ T k) (fun xs => xs.length = L.length) (fun pre => pre.length ≤ L.length) L.length X w := fun l J Jx W hW hs hJ hJx hY => by
  have hl1 := (Array.getElem?_eq_some_iff.1 hall.1).1
  have hl2 := hall.2.lt
  refine (allInX n hn l b1 w L tl hok hall hsz (fun j V => ∃ pre, pre.length = j ∧ J (fun _ => False) pre V) (fun j V => ∃ pre, pre.length = j ∧ Jx (fun _ => False) pre V) W hW ?_ ?_ ⟨[], rfl, hs (fun _ => False) W (Below.refl _ _) (fun _ hf => hf.elim)⟩).mono ?_
  · rintro j A B ⟨pre, h1, h2⟩ hb
    exact ⟨pre, h1, hJ _ _ A B h2 (Only.of_below hb (Nat.le_refl _) _)⟩
  · rintro j x Wp W1 ⟨pre, rfl, hj⟩ hb hz hbat
    have hlt : pre.length < L.length := hbat.1
    have hsz1 : w.heap.size ≤ W1.heap.size := by have := hW.size; have := hb.size; omega
    refine (hY (fun _ => False) pre x Wp W1 (fun _ hf => hf.elim) hj (Only.of_below hb (Nat.le_refl _) _) hz ⟨hbat, fun _ hf => hf⟩ hlt).mono (fun e W' hr => ?_)
    rcases hr with ⟨h1, h2, h3⟩ | ⟨h1, h2, h3⟩
    · exact .inl ⟨h1, ⟨_, by simp, h2⟩, ⟨h3.block b1 (by omega) (fun h => hX1 h.1), fun k hk => h3.block k (by have := hl2 k hk; omega) (fun h => hX2 k hk h.1)⟩, h3.size⟩
    · exact .inr ⟨h1, _, by simp, h2⟩
  · rintro e W' ⟨he, ⟨pre, h1, h2⟩ | ⟨j, hj, pre, rfl, h2⟩⟩
    · exact ⟨he, .inl ⟨_, pre, h1, h2⟩⟩
    · exact ⟨he, .inr ⟨_, pre, hj, h2⟩⟩
end Go.Proofs.YtlgcoaeddeiegaaGreat

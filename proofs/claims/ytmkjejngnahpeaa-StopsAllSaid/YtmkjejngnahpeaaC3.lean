/- The texts Ka, Kc in one. -/
import Derived.Test.YtmkjejngnahpeaaA1
import Derived.RangeFuncNested
import Derived.RangeFuncWrites
import Derived.RangeFuncBound
import Derived.Test.YtmkjejngnahpeaaB8
import Derived.Test.YtmkjejngnahpeaaC2
import Derived.Laws.EntriesVeiled
/- A range over a function that has memory of its own, and whose elements lie in memory when they come. -/
namespace Go.Proofs.Ytmkjejngnahpeaa
open Go Go.RowKit

variable {F : Fence} {n : Nat} {P : Program}

/-- what a round keeps: what lay ahead of the iterator, and the iterator's own blocks T -/
abbrev KeptR (n₀ : Nat) (T : Nat → Prop) (W W' : World) : Prop := Only (fun k => n₀ ≤ k ∧ ¬ T k) W W'
theorem KeptR.join {n₀ : Nat} {T : Nat → Prop} {A B C : World} (h : KeptR n₀ T A B) (k : KeptR n₀ T B C) : KeptR n₀ T A C := Only.trans h k (fun _ _ h => h)
theorem KeptR.of {n₀ : Nat} {T : Nat → Prop} {A B : World} (h : Below A.heap.size A B) : KeptR n₀ T A B := Only.of_below h (Nat.le_refl _) _
theorem only_put (S : Nat → Prop) (W : World) (b : Nat) (o : Obj) (h : S b) : Only S W (W.putObj b o) := Only.of_grown (grownBy_putObj' W b o) (fun k e => by cases e; exact h)
/-- an iterator's contract: T are its own blocks; Gv is what holds of an element when it comes -/
def SeqTold {α : Type} (F : Fence) (n : Nat) (P : Program) (g : Nat) (lb : Array Value) (encs : α → Array Value) (Gv : Nat → (Nat → Prop) → List α → α → World → Prop) (S Sp : List α → Prop) (N : Nat) (w : World) : Prop :=
  ∀ (l : Nat) (J Jx : (Nat → Prop) → List α → World → Prop) (W : World), Below w.heap.size w W →
    (∀ T W1, Below W.heap.size W W1 → (∀ k, T k → W.heap.size ≤ k ∧ k < W1.heap.size) → J T [] W1) →
    (∀ T pre A B, J T pre A → Only T A B → J T pre B) → (∀ T pre A B, Jx T pre A → Only T A B → Jx T pre B) →
    (∀ T pre x Wp W1, (∀ k, T k → W.heap.size ≤ k ∧ k < W1.heap.size) → J T pre Wp → Only T Wp W1 → W.heap.size ≤ Wp.heap.size → Gv Wp.heap.size T pre x W1 → pre.length < N → YieldAt F (n - 1) P l (encs x) W1 fun e W' =>
      (e = .returned (.bool true) ∧ J T (pre ++ [x]) W' ∧ KeptR w.heap.size T W1 W') ∨ (e = .returned (.bool false) ∧ Jx T (pre ++ [x]) W' ∧ KeptR w.heap.size T W1 W')) →
    CallsIn F n P g (#[.func (.yield l) #[] #[]] ++ lb) W fun e W' => (∃ v, e = .returned v) ∧ ((∃ T xs, S xs ∧ J T xs W') ∨ (∃ T pre, Sp pre ∧ Jx T pre W'))
theorem SeqTold.later {α : Type} {g : Nat} {lb : Array Value} {encs : α → Array Value} {Gv : Nat → (Nat → Prop) → List α → α → World → Prop} {S Sp : List α → Prop} {N : Nat} {w w' : World}
    (h : SeqTold F n P g lb encs Gv S Sp N w) (hb : Below w.heap.size w w') : SeqTold F n P g lb encs Gv S Sp N w' :=
  fun l J Jx W hW hs hJ hJx hY => h l J Jx W (hb.trans (hW.mono hb.size)) hs hJ hJx (fun T pre x Wp W1 hT hj ho hz hg hl => (hY T pre x Wp W1 hT hj ho hz hg hl).mono (fun e W' hr => by
    rcases hr with ⟨h1, h2, h3⟩ | ⟨h1, h2, h3⟩
    · exact .inl ⟨h1, h2, h3.mono (fun k _ hk => ⟨Nat.le_trans hb.size hk.1, hk.2⟩)⟩
    · exact .inr ⟨h1, h2, h3.mono (fun k _ hk => ⟨Nat.le_trans hb.size hk.1, hk.2⟩)⟩))
/-- what a round of the statement keeps: beside the iterator's blocks the statement's own two, from b on -/
abbrev KeptS (n₀ b : Nat) (T : Nat → Prop) (W W' : World) : Prop := KeptR n₀ (fun k => T k ∨ k = b ∨ k = b + 1) W W'
/-- how the body of a round may be left -/
def toldPost {α : Type} (K : World → World → Prop) (I : List α → World → Prop) (Ix : Code → List α → World → Prop) (xs : List α) (W : World) : Exit → Act → World → Prop
  | .normal, _, W' => K W W' ∧ I xs W'
  | .ret, _, W' => K W W' ∧ Ix .ret xs W'
  | .exit id, _, W' => K W W' ∧ Ix (.exit id) xs W'
  | .goto t, _, W' => K W W' ∧ Ix (.goto t) xs W'
  | .panic _, _, _ => False
  | .outgrown, _, _ => False
/-- **THE STATEMENT OVER SUCH AN ITERATOR** -/
theorem wpIn_rangeFunc_told {α : Type} {g : Operand} {ps : Array Tmp} {assign body : Code} {Q : Exit → Act → World → Prop} {a : Act} {w : World}
    (hro : F.round = none) (h1 : 1 ≤ n) {gf : Nat} {lb : Array Value} (hg : a.eval g = .func (.func gf) #[] lb) (hFg : F.fn gf) (eg : ∀ args w, (callFunc gf args).run P w = .ok (.enter gf args) w)
    {encs : α → Array Value} {Gv : Nat → (Nat → Prop) → List α → α → World → Prop} {S Sp : List α → Prop} {N : Nat} {w0 : World} (hseq : SeqTold F (n - 1) P gf lb encs Gv S Sp N w0) (hb0 : Below w0.heap.size w0 w) (hps : ∀ x, (encs x).size = ps.size)
    (I : (Nat → Prop) → List α → World → Prop) (Ix : Code → (Nat → Prop) → List α → World → Prop)
    (hI : ∀ T pre A B, I T pre A → Only (fun k => T k ∨ k = w.heap.size ∨ k = w.heap.size + 1) A B → I T pre B)
    (hIx : ∀ c T pre A B, Ix c T pre A → Only (fun k => T k ∨ k = w.heap.size ∨ k = w.heap.size + 1) A B → Ix c T pre B)
    (h0 : ∀ T W1, Below w.heap.size w W1 → w.heap.size + 2 ≤ W1.heap.size → (∀ k, T k → w.heap.size + 2 ≤ k ∧ k < W1.heap.size) → I T [] W1)
    (hround : ∀ T pre x Wp W, (∀ k, T k → w.heap.size + 2 ≤ k ∧ k < W.heap.size) → (∃ r, W.heap[w.heap.size + 1]? = some (.loop r)) → W.heap[w.heap.size]? = some (.deferred (some [])) → I T pre Wp → Only T Wp W → w.heap.size + 2 ≤ Wp.heap.size → Gv Wp.heap.size T pre x W → pre.length < N →
      ∀ K : Act → World → Prop, (∀ a' W', KeptS w0.heap.size w.heap.size T W W' →
        (∀ W2, Only (fun k => k = w.heap.size + 1) W' W2 → (∃ r, W2.heap[w.heap.size + 1]? = some (.loop r)) →
          body.wpIn (F.inRound (w.heap.size + 1)) (n - 1 - 1) P (toldPost (KeptS w0.heap.size w.heap.size T) (I T) (fun c => Ix c T) (pre ++ [x]) W2) a' W2) → K a' W') →
      assign.wpIn (F.inRound (w.heap.size + 1)) (n - 1 - 1) P (Exit.then K (fun _ _ _ => False)) { tmps := (ps.zip (encs x)).foldl (fun t (p, v) => t.setIfInBounds p v) a.tmps, defers := [] } W)
    (hdone : ∀ T xs W, S xs → I T xs W → W.heap[w.heap.size]? = some (.deferred (some [])) → Q .normal { a with defers := { target := .collected w.heap.size, args := #[] } :: a.defers } W)
    (hstop : ∀ T c pre W, Sp pre → Ix c T pre W → W.heap[w.heap.size]? = some (.deferred (some [])) → c.wpIn F n P Q { a with defers := { target := .collected w.heap.size, args := #[] } :: a.defers } W) :
    (Code.rangeFunc g ps assign body).wpIn F n P Q a w := by
  refine wpIn_rangeFunc fun fn hfn => ?_
  rw [hro]
  obtain ⟨rec, hrec⟩ : ∃ rec : LoopState → Option Code → Loop, rec = fun st pe => { state := st, pending := pe, fn, tmps := a.tmps, params := ps, assign, body, defers := w.heap.size } := ⟨_, rfl⟩
  obtain ⟨V, hV⟩ : ∃ V, (w.alloc (.deferred (some []))).alloc (.loop (rec .ready none)) = V := ⟨_, rfl⟩
  have hVs : V.heap.size = w.heap.size + 2 := by rw [← hV]; simp
  have hVb : Below w.heap.size w V := by rw [← hV]; exact ((Below.refl _ w).alloc (Nat.le_refl _) _).alloc (by simp) _
  have hVl : V.heap[w.heap.size + 1]? = some (.loop (rec .ready none)) := by
    rw [← hV]
    have := World.alloc_heap_new (w.alloc (.deferred (some []))) (.loop (rec .ready none))
    rwa [World.size_alloc] at this
  have hVd : V.heap[w.heap.size]? = some (.deferred (some [])) := by rw [← hV]; exact (Below.heap_alloc _ _ _ (by simp)).trans (World.alloc_heap_new w _)
  refine ⟨w.heap.size + 1, [{ target := .collected w.heap.size, args := #[] }], V, { target := .fn (.func gf) lb, args := #[.func (.yield (w.heap.size + 1)) #[] #[]] }, V, gf, #[.func (.yield (w.heap.size + 1)) #[] #[]] ++ lb, V,
    by rw [← hV, hrec]; exact run_enterLoop_outer _ _ _ _ _, ?_, ?_, by simp [invoke, go_sem, eg], fun _ => h1, ?_⟩
  · simp only [resolve, hg]
    simp [go_sem]
  · intro f' hf'
    simp [Target.leads] at hf'
    subst hf'
    exact hFg
  -- the two blocks of the statement's own, in whatever world the iterator leaves
  have book : ∀ {T : Nat → Prop} {A B : World} {o : Obj} {k : Nat}, (∀ k, T k → w.heap.size + 2 ≤ k) → Only T A B → k < w.heap.size + 2 → A.heap[k]? = some o → B.heap[k]? = some o := fun hT ho hk hA =>
    (ho.block _ (Array.getElem?_eq_some_iff.1 hA).1 (fun h => by have := hT _ h; omega)).trans hA
  have kept : ∀ {T : Nat → Prop} {A B : World} {o : Obj} {k : Nat}, KeptS w0.heap.size w.heap.size T A B → (k = w.heap.size ∨ k = w.heap.size + 1) → A.heap[k]? = some o → B.heap[k]? = some o := fun ho hk hA =>
    (ho.block _ (Array.getElem?_eq_some_iff.1 hA).1 (fun h => h.2 (.inr hk))).trans hA
  refine (hseq (w.heap.size + 1)
    (fun T pre W => (∀ k, T k → w.heap.size + 2 ≤ k) ∧ I T pre W ∧ W.heap[w.heap.size + 1]? = some (.loop (rec .ready none)) ∧ W.heap[w.heap.size]? = some (.deferred (some [])))
    (fun T pre W => (∀ k, T k → w.heap.size + 2 ≤ k) ∧ ∃ c, Ix c T pre W ∧ W.heap[w.heap.size + 1]? = some (.loop (rec .done (some c))) ∧ W.heap[w.heap.size]? = some (.deferred (some [])))
    V (hb0.trans (hVb.mono hb0.size)) ?start ?abide ?abidex ?round).mono ?behind
  case start =>
    intro T W1 hW1 hT
    rw [hVs] at hT
    have hs := hW1.size
    rw [hVs] at hs
    exact ⟨fun k hk => (hT k hk).1, h0 T W1 (hVb.trans (hW1.mono (by omega))) hs hT, (hW1.block _ (by omega)).trans hVl, (hW1.block _ (by omega)).trans hVd⟩
  case abide =>
    rintro T pre A B ⟨hT, hi, hl, hd⟩ ho
    exact ⟨hT, hI T pre A B hi (ho.mono (fun _ _ h => .inl h)), book hT ho (by omega) hl, book hT ho (by omega) hd⟩
  case abidex =>
    rintro T pre A B ⟨hT, c, hi, hl, hd⟩ ho
    exact ⟨hT, c, hIx c T pre A B hi (ho.mono (fun _ _ h => .inl h)), book hT ho (by omega) hl, book hT ho (by omega) hd⟩
  case round =>
    rintro T pre x Wp W hTW ⟨hT, hi, hlp, hdp⟩ hop hszp hgv hlen
    rw [hVs] at hszp
    have hl := book hT hop (by omega) hlp
    have hd := book hT hop (by omega) hdp
    have hy := run_yield (P := P) (args := encs x) hl (by rw [hrec]; exact hps x)
    rw [hrec] at hy
    refine ⟨fn, _, assign, body, hy, roundIn_of_wpIn hfn (wpIn_mono (hround T pre x Wp W (fun k hk => ⟨hT k hk, (hTW k hk).2⟩) ⟨_, hl⟩ hd hi hop hszp hgv hlen (fun a' W' => KeptS w0.heap.size w.heap.size T W W' ∧ ∀ W2, Only (fun k => k = w.heap.size + 1) W' W2 → (∃ r, W2.heap[w.heap.size + 1]? = some (.loop r)) → body.wpIn (F.inRound (w.heap.size + 1)) (n - 1 - 1) P (toldPost (KeptS w0.heap.size w.heap.size T) (I T) (fun c => Ix c T) (pre ++ [x]) W2) a' W2) (fun _ _ h1 h2 => ⟨h1, h2⟩)) ?_)⟩
    clear hy
    rintro e a' Wa hp
    cases e with
    | normal =>
      obtain ⟨hka, hbody⟩ := hp
      have hla := kept hka (.inr rfl) hl
      have hda := kept hka (.inl rfl) hd
      have hlta := (Array.getElem?_eq_some_iff.1 hla).1
      refine ⟨_, run_beginRound hla (by rw [hrec]), ?_⟩
      have hl2 : (Wa.putObj (w.heap.size + 1) (.loop { rec .ready none with state := .busy })).heap[w.heap.size + 1]? = some (.loop { rec .ready none with state := .busy }) := World.putObj_heap_same hlta
      have hd2 : (Wa.putObj (w.heap.size + 1) (.loop { rec .ready none with state := .busy })).heap[w.heap.size]? = some (.deferred (some [])) := (World.putObj_heap_other (by omega)).trans hda
      have hput : ∀ (W' : World) (o : Obj), KeptR w0.heap.size T W' (W'.putObj (w.heap.size + 1) o) := fun W' o => only_put _ W' _ o ⟨by have := hb0.size; omega, fun h => by have := hT _ h; omega⟩
      have hput' : ∀ (W' : World) (o : Obj), Only (fun k => T k ∨ k = w.heap.size ∨ k = w.heap.size + 1) W' (W'.putObj (w.heap.size + 1) o) := fun W' o => only_put _ W' _ o (.inr (.inr rfl))
      have less : ∀ {A B : World}, KeptS w0.heap.size w.heap.size T A B → KeptR w0.heap.size T A B := fun h => h.mono (fun _ _ hk => ⟨hk.1, fun ht => hk.2 (.inl ht)⟩)
      refine wpIn_mono (hbody _ (only_put _ _ _ _ rfl) ⟨_, hl2⟩) ?_
      have fin : ∀ (jump : Option Code) (W3 : World), KeptS w0.heap.size w.heap.size T (Wa.putObj (w.heap.size + 1) (.loop { rec .ready none with state := .busy })) W3 →
          (Instr.endRound (w.heap.size + 1) jump).run P W3 = .ok (.bool jump.isNone) (W3.putObj (w.heap.size + 1) (.loop (rec (if jump.isNone then .ready else .done) jump))) ∧
          (W3.putObj (w.heap.size + 1) (.loop (rec (if jump.isNone then .ready else .done) jump))).heap[w.heap.size + 1]? = some (.loop (rec (if jump.isNone then .ready else .done) jump)) ∧
          (W3.putObj (w.heap.size + 1) (.loop (rec (if jump.isNone then .ready else .done) jump))).heap[w.heap.size]? = some (.deferred (some [])) := fun jump W3 hk3 => by
        have hl3 := kept hk3 (.inr rfl) hl2
        have hr := run_endRound (P := P) jump hl3
        rw [hrec] at hr ⊢
        exact ⟨hr, World.putObj_heap_same (Array.getElem?_eq_some_iff.1 hl3).1, (World.putObj_heap_other (by omega)).trans (kept hk3 (.inl rfl) hd2)⟩
      rintro e a3 W3 hp3
      cases e with
      | normal =>
        obtain ⟨hk3, hi3⟩ := hp3
        obtain ⟨hr, hl4, hd4⟩ := fin none W3 hk3
        exact ⟨_, _, hr, .inl ⟨rfl, ⟨hT, hI _ _ _ _ hi3 (hput' _ _), hl4, hd4⟩, (((less hka).join (hput _ _)).join (less hk3)).join (hput _ _)⟩⟩
      | ret =>
        obtain ⟨hk3, hi3⟩ := hp3
        obtain ⟨hr, hl4, hd4⟩ := fin (some .ret) W3 hk3
        exact ⟨_, _, hr, .inr ⟨rfl, ⟨hT, .ret, hIx _ _ _ _ _ hi3 (hput' _ _), hl4, hd4⟩, (((less hka).join (hput _ _)).join (less hk3)).join (hput _ _)⟩⟩
      | exit id =>
        obtain ⟨hk3, hi3⟩ := hp3
        obtain ⟨hr, hl4, hd4⟩ := fin (some (.exit id)) W3 hk3
        exact ⟨_, _, hr, .inr ⟨rfl, ⟨hT, .exit id, hIx _ _ _ _ _ hi3 (hput' _ _), hl4, hd4⟩, (((less hka).join (hput _ _)).join (less hk3)).join (hput _ _)⟩⟩
      | goto t =>
        obtain ⟨hk3, hi3⟩ := hp3
        obtain ⟨hr, hl4, hd4⟩ := fin (some (.goto t)) W3 hk3
        exact ⟨_, _, hr, .inr ⟨rfl, ⟨hT, .goto t, hIx _ _ _ _ _ hi3 (hput' _ _), hl4, hd4⟩, (((less hka).join (hput _ _)).join (less hk3)).join (hput _ _)⟩⟩
      | panic ch => exact hp3.elim
      | outgrown => exact hp3.elim
    | ret => exact hp.elim
    | exit id => exact hp.elim
    | goto t => exact hp.elim
    | panic ch => exact hp.elim
    | outgrown => exact hp.elim
  case behind =>
    rintro e W2 ⟨⟨v, rfl⟩, (⟨T, xs, hS, hT, hi, hl, hd⟩ | ⟨T, pre, hSp, hT, c, hi, hl, hd⟩)⟩
    · exact ⟨none, _, by have := run_endLoop (P := P) hl (by rw [hrec]; simp); rw [hrec] at this; exact this, hdone T xs _ hS (hI _ _ _ _ hi (only_put _ _ _ _ (.inr (.inr rfl)))) ((World.putObj_heap_other (by omega)).trans hd)⟩
    · exact ⟨some c, _, by have := run_endLoop (P := P) hl (by rw [hrec]; simp); rw [hrec] at this; exact this, hstop T c pre _ hSp (hIx _ _ _ _ _ hi (only_put _ _ _ _ (.inr (.inr rfl)))) ((World.putObj_heap_other (by omega)).trans hd)⟩
/-- a round's contract, where the fence asks for no depth -/
theorem yield_wide {l l' m m' : Nat} {args : Array Value} {W : World} {R : Ending → World → Prop} (h : YieldAt Fence.wide m P l args W R) : YieldAt (Fence.wide.inRound l') m' P l args W R := by
  obtain ⟨fn, tmps, assign, body, hy, h1, h2⟩ := h
  exact ⟨fn, tmps, assign, body, hy, h1, fun c cs _ => h2 c cs (room_wide _)⟩
end Go.Proofs.Ytmkjejngnahpeaa
/- stops: All of a disk that is there: the iterator is made. -/
namespace Go.Proofs.Ytmkjejngnahpeaa
open Go Go.Maps Go.RowKit Go.Shelf
attribute [local go_sem] Oper.semAt_some

/-- the iterator's two variables: is there a disk; its unsure files -/
def WaysOf (w : World) (b3 b4 : Nat) (us : List U0) : Prop := w.heap[b3]? = some (.cells #[.bool true] 4 (0, 0)) ∧ UsBox w b4 us
def allV (b3 b4 : Nat) : Value := .func (.func 141) #[] #[.pointer (some ⟨b3, 0, none⟩), .pointer (some ⟨b4, 0, none⟩)]
theorem WaysOf.below {w w' : World} {b3 b4 : Nat} {us : List U0} (h : WaysOf w b3 b4 us) (hb : Below w.heap.size w w') : WaysOf w' b3 b4 us := by
  obtain ⟨h1, v, h2, h3⟩ := h
  exact ⟨(hb.block b3 (Array.getElem?_eq_some_iff.1 h1).1).trans h1, v, (hb.block b4 (Array.getElem?_eq_some_iff.1 h2).1).trans h2, h3.kept (fun k hk => hb.block k (h3.lt k hk))⟩
/-- .. and all of it is newer than n0 -/
structure WaysNew (n0 : Nat) (w : World) (b3 b4 : Nat) (us : List U0) : Prop where
  ways : WaysOf w b3 b4 us
  three : n0 ≤ b3
  four : n0 ≤ b4
  own : ∀ v, w.heap[b4]? = some (.cells #[v] 206 (0, 0)) → ∀ k, v.ownBlock = some k → n0 ≤ k
theorem WaysNew.only {n0 : Nat} {w w' : World} {b3 b4 : Nat} {us : List U0} {X : Nat → Prop} (h : WaysNew n0 w b3 b4 us) (ho : Only X w w') (hX : ∀ k, X k → k < n0) : WaysNew n0 w' b3 b4 us := by
  obtain ⟨⟨h1, v, h2, h3⟩, t3, t4, ho4⟩ := h
  have e4 := (ho.block b4 (Array.getElem?_eq_some_iff.1 h2).1 (fun e => by have := hX _ e; omega)).trans h2
  refine ⟨⟨(ho.block b3 (Array.getElem?_eq_some_iff.1 h1).1 (fun e => by have := hX _ e; omega)).trans h1, v, e4, h3.kept (fun k hk => ho.block k (h3.lt k hk) (fun e => by have := hX _ e; have := ho4 v h2 k hk; omega))⟩, t3, t4, fun v' h' k hk => ?_⟩
  rw [e4] at h'
  simp only [Option.some.injEq, Obj.cells.injEq, Array.mk.injEq, List.cons.injEq, and_true] at h'
  rw [← h'] at hk
  exact ho4 v h2 k hk
theorem WaysNew.below {n0 : Nat} {w w' : World} {b3 b4 : Nat} {us : List U0} (h : WaysNew n0 w b3 b4 us) (hb : Below w.heap.size w w') : WaysNew n0 w' b3 b4 us :=
  h.only (Only.of_below hb (Nat.le_refl _) (fun _ => False)) (fun _ hf => hf.elim)
set_option maxRecDepth 100000 in
set_option maxHeartbeats 1000000 in
theorem sAll_new {w : World} {S : Nat → Prop} {q : Nat} {d : Dk} (h : DiskAt w S q d) (hfm : d.fates.length ≤ 1000000000) :
    Calls Try.prog 80 #[.pointer (some ⟨q, 0, none⟩)] w fun e w' => ∃ b3 b4, e = .returned (allV b3 b4) ∧ WaysNew w.heap.size w' b3 b4 (unsT d.files) ∧ Below w.heap.size w w' := by
  have H := Lib.hid h
  clear h
  go_enter Try.func80, Try.ntmps80
  go_wp2_with fail
  refine (snone_b H.out hfm).mono ?_
  rintro e w1 ⟨rfl, hb1⟩
  have H1 := Lib.hid (And.intro (H.out.below hb1) hb1)
  clear hb1
  go_upto_region 3 with fail
  obtain ⟨w2, hw2⟩ : ∃ W : World, W = (w1.alloc (.cells #[.bool true] 4)).alloc (.cells #[.slice none 0 0] 206) := ⟨_, rfl⟩
  obtain ⟨b3, hb3⟩ : ∃ b, b = w1.heap.size := ⟨_, rfl⟩
  obtain ⟨b4, hb4⟩ : ∃ b, b = w1.heap.size + 1 := ⟨_, rfl⟩
  have hb2 : Below w1.heap.size w1 w2 := by rw [hw2]; exact ((Below.refl _ _).alloc (Nat.le_refl _) _).alloc (by simp) _
  have h3 : w2.heap[b3]? = some (.cells #[.bool true] 4 (0, 0)) := by
    rw [hw2, hb3]
    exact (Below.heap_alloc _ _ _ (by simp)).trans (alloc_cells _ _ _)
  have h4 : w2.heap[b4]? = some (.cells #[.slice none 0 0] 206 (0, 0)) := by
    rw [hw2, hb4]
    have := alloc_cells (w1.alloc (.cells #[.bool true] 4)) #[.slice none 0 0] 206
    simpa using this
  have c3 : w2.cell? ⟨b3, 0, none⟩ = some (.bool true) := cell_of h3 rfl
  have H2 := Lib.hid (And.intro (H1.out.1.below hb2) (And.intro (H1.out.2.trans (hb2.mono H1.out.2.size)) (show w1.heap.size ≤ b3 ∧ w1.heap.size ≤ b4 ∧ b3 ≠ b4 by omega)))
  have HH := Lib.hid (And.intro h3 h4)
  rw [← hw2, ← hb4, ← hb3]
  clear hw2 hb3 hb4 h3 h4 hb2
  go_wp2_with fail
  refine (sall_new H2.out.1).mono ?_
  rintro e w3 ⟨oa, N, c, rfl, hn, hrow, hb5, hnw⟩
  have HNW := Lib.hid hnw
  clear hnw
  have h3' := (hb5.block b3 (Array.getElem?_eq_some_iff.1 HH.out.1).1).trans HH.out.1
  have h4' := (hb5.block b4 (Array.getElem?_eq_some_iff.1 HH.out.2).1).trans HH.out.2
  have hown : ∀ k, (Value.slice oa N c).ownBlock = some k → k ≠ b4 := fun k hk e => by
    subst e
    exact absurd (row_type hrow hk h4') (by decide)
  have k4 : w3.cell? ⟨b4, 0, none⟩ = some (.slice none 0 0) := cell_of h4' rfl
  have z4 : w3.frozen? ⟨b4, 0, none⟩ = false := free_of h4' _
  have HR := Lib.hid (And.intro hn (And.intro hrow (And.intro hb5 (And.intro h3' (And.intro h4' hown)))))
  clear hn hrow hb5 h3' h4' hown c3
  go_wp2_with fail
  go_ret
  have e4 : (w3.setCell ⟨b4, 0, none⟩ (.slice oa N c)).heap[b4]? = some (.cells #[.slice oa N c] 206 (0, 0)) := heap_setCell_here _ HR.out.2.2.2.2.1
  refine ⟨b3, b4, rfl, ⟨⟨?_, .slice oa N c, e4, ?_⟩, by have := H1.out.2.size; have := H2.out.2.2.1; omega, by have := H1.out.2.size; have := H2.out.2.2.2.1; omega, fun v' h' k hk => ?_⟩, ?_⟩
  · exact (Below.heap_setCell _ _ _ _ (fun e => H2.out.2.2.2.2 e)).trans HR.out.2.2.2.1
  · rw [HR.out.1]
    exact HR.out.2.1.kept (fun k hk => Below.heap_setCell _ _ _ _ (HR.out.2.2.2.2.2 k hk))
  · have e4' := e4.symm.trans h'
    simp only [Option.some.injEq, Obj.cells.injEq, Array.mk.injEq, List.cons.injEq, and_true] at e4'
    rw [← e4'] at hk
    have := HNW.out k hk
    have := H2.out.2.1.size
    omega
  · have h5 := H2.out.2.1.trans (HR.out.2.2.1.mono H2.out.2.1.size)
    exact h5.setCell (p := ⟨b4, 0, none⟩) (by have := H1.out.2.size; have := H2.out.2.2.2.1; show w.heap.size ≤ b4; omega) _
theorem sAll_b {w : World} {S : Nat → Prop} {q : Nat} {d : Dk} (h : DiskAt w S q d) (hfm : d.fates.length ≤ 1000000000) :
    Calls Try.prog 80 #[.pointer (some ⟨q, 0, none⟩)] w fun e w' => ∃ b3 b4, e = .returned (allV b3 b4) ∧ WaysOf w' b3 b4 (unsT d.files) ∧ Below w.heap.size w w' :=
  (sAll_new h hfm).mono (fun _ _ ⟨b3, b4, h1, h2, h3⟩ => ⟨b3, b4, h1, h2.ways, h3⟩)
end Go.Proofs.Ytmkjejngnahpeaa

/- The texts Kit, Da, Ma, Dr, Dk, Ds, Dn, Dt in one. -/
import Derived.WalkKit
import Derived.WalkSpells
import Derived.WalkLawsBesides
import Derived.Lib.Hide
import Derived.Maps.OwnSet
import Derived.Sort.KeysCollected
import Derived.Laws.Entries
import Derived.Test.YtlgcoaeddeiegaaGreatProg
import Derived.Deep.Cut
import Derived.OwnWalk
/- General laws of my own: rows of cells that a call owns, the mark of a converted string behind them allowed; append, conversion, reading. No program in sight. -/
namespace Go.Proofs.YtlgcoaeddeiegaaGreat
open Go Go.RowKit

def freeRow (fr : Nat × Nat) (n : Nat) : Prop := ∀ j, j < n → (decide (fr.1 ≤ j) && decide (j < fr.2)) = false

theorem freeRow_zero (n : Nat) : freeRow (0, 0) n := fun j _ => by simp
theorem freeRow_mark (n : Nat) : freeRow (n, n + 1) n := fun j h => by simp; omega

def hasRow (w : World) (base : Nat) (e : TypeId) (size : Nat) (v : Value) (n : Nat) (xs : List Value) : Prop :=
  xs.length = n * size ∧
  ((v = .slice none 0 0 ∧ n = 0) ∨
   ∃ g cap cur fr, v = .slice (some ⟨g, 0, none⟩) n cap ∧ base ≤ g ∧ w.heap[g]? = some (.cells cur e fr) ∧ n ≤ cap ∧ cap ≤ maxLen ∧ cur.size = cap * size ∧ freeRow fr cur.size ∧ cur.toList.take (n * size) = xs)

section
variable {w : World} {base : Nat} {e : TypeId} {size : Nat} {v : Value} {n : Nat} {xs : List Value}

theorem hasRow.of_own (h : w.ownsRow base e size v n xs) : hasRow w base e size v n xs := by
  refine ⟨h.1, ?_⟩
  rcases h.2 with h2 | ⟨g, cap, cur, hv, hb, hg, hn, hm, hs, ht⟩
  · exact .inl h2
  · exact .inr ⟨g, cap, cur, (0, 0), hv, hb, hg, hn, hm, hs, freeRow_zero _, ht⟩

theorem hasRow.kept {w' : World} {row : Option Nat} (h : hasRow w base e size v n xs) (hg : w.grownBy w' row) (hne : v.ownBlock = none ∨ v.ownBlock ≠ row) : hasRow w' base e size v n xs := by
  refine ⟨h.1, ?_⟩
  rcases h.2 with hn | ⟨g, cap, cur, fr, rfl, hb, hgg, rest⟩
  · exact .inl hn
  · refine .inr ⟨g, cap, cur, fr, rfl, hb, ?_, rest⟩
    rw [hg.block g (Array.getElem?_eq_some_iff.1 hgg).1 (by simpa [Value.ownBlock] using hne)]
    exact hgg

theorem hasRow.alloc (h : hasRow w base e size v n xs) (o : Obj) : hasRow (w.alloc o) base e size v n xs :=
  h.kept (World.grownBy_alloc w o none) (by cases hv : v.ownBlock <;> simp)

theorem hasRow.drew (h : hasRow w base e size v n xs) : hasRow w.drew base e size v n xs := h

theorem hasRow.lt (h : hasRow w base e size v n xs) : ∀ k, v.ownBlock = some k → base ≤ k ∧ k < w.heap.size := by
  intro k hk
  rcases h.2 with ⟨rfl, _⟩ | ⟨g, cap, cur, fr, rfl, hb, hg, _⟩
  · simp [Value.ownBlock] at hk
  · simp [Value.ownBlock] at hk
    subst hk
    exact ⟨hb, (Array.getElem?_eq_some_iff.1 hg).1⟩

theorem hasRow.cells (h : hasRow w base e size v n xs) {g : Nat} (hg : v.ownBlock = some g) : ∀ j u, xs[j]? = some u → w.cell? ((⟨g, 0, none⟩ : Addr).add j) = some u := by
  intro j u hu
  rcases h.2 with ⟨rfl, _⟩ | ⟨g', cap, cur, fr, rfl, _, hgg, _, _, _, _, htake⟩
  · simp [Value.ownBlock] at hg
  · simp [Value.ownBlock] at hg
    subst hg
    have hadd : (⟨g', 0, none⟩ : Addr).add j = ⟨g', j, none⟩ := by unfold Addr.add; split <;> simp_all
    rw [hadd, cell_of_row w g' j cur e fr hgg]
    rw [← htake, List.getElem?_take] at hu
    split at hu
    · simpa using hu
    · cases hu

theorem hasRow.mono {b' : Nat} (h : hasRow w base e size v n xs) (hb : b' ≤ base) : hasRow w b' e size v n xs := by
  refine ⟨h.1, ?_⟩
  rcases h.2 with h2 | ⟨g, cap, cur, fr, hv, hbg, rest⟩
  · exact .inl h2
  · exact .inr ⟨g, cap, cur, fr, hv, by omega, rest⟩
end

theorem run_storeCells_fr (P : Program) (g o : Nat) (t : TypeId) (fr : Nat × Nat) : ∀ (vs : List Value) (i : Nat) (cur : Array Value) (w : World), w.heap[g]? = some (.cells cur t fr) → freeRow fr cur.size → o + i + vs.length ≤ cur.size → (∀ v ∈ vs, v.oneCell' = true) →
    (storeCells ⟨g, o, none⟩ vs i).run P w = .ok () (w.setRow g (cur.toList.take (o + i) ++ vs ++ cur.toList.drop (o + i + vs.length)).toArray)
  | [], i, cur, w, hg, _, _, _ => by
    simp only [storeCells, List.append_nil, List.length_nil, Nat.add_zero, List.take_append_drop, Array.toArray_toList]
    rw [setRow_self w g cur t fr hg]
    rfl
  | v :: rest, i, cur, w, hg, hfr, hl, h1 => by
    have hi : o + i < cur.size := by simp at hl; omega
    have hadd : (⟨g, o, none⟩ : Addr).add i = ⟨g, o + i, none⟩ := by unfold Addr.add; split <;> simp_all
    have hcell : w.cell? ⟨g, o + i, none⟩ = some cur[o + i] := by simp [World.cell?, hg, hi]
    have hfro : w.frozen? ⟨g, o + i, none⟩ = false := by
      have := hfr (o + i) hi
      obtain ⟨lo, hi'⟩ := fr
      simpa [World.frozen?, hg] using this
    have hst : (store ((⟨g, o, none⟩ : Addr).add i) v).run P w = .ok () (w.setRow g (cur.setIfInBounds (o + i) v)) := by
      rw [hadd, run_store P w _ v _ (h1 v (by simp)), hcell]
      simp [hfro, setCell_eq_setRow w g (o + i) cur t fr v hg]
    have ih := run_storeCells_fr P g o t fr rest (i + 1) (cur.setIfInBounds (o + i) v) (w.setRow g (cur.setIfInBounds (o + i) v)) (setRow_heap w g cur _ t _ hg) (by simpa using hfr) (by simp at hl ⊢; omega) (fun x hx => h1 x (by simp [hx]))
    simp only [storeCells, Sem.run_bind, hst, Result.andThen_ok, ih, setRow_setRow]
    congr 3
    have e := list_seg_step cur.toList (o + i) v rest (by simp at hl ⊢; omega)
    simpa [Array.toList_setIfInBounds, Nat.add_assoc] using e

structure Src (P : Program) (w : World) (size : Nat) (u : TypeId) (x : Value) (m : Nat) (news : List Value) : Prop where
  ty : (∃ e', P.underlying u = some (.slice e')) ∨ P.underlying u = some .string
  len : ∀ w' : World, (Builtin.lenOf x).run P w' = .ok m w'
  cells : ∀ w' : World, w'.heap = w.heap → (Builtin.firstCells size m x).run P w' = .ok news.toArray w'
  num : news.length = m * size
  one : ∀ v ∈ news, v.oneCell' = true

theorem Src.slice {P : Program} {w : World} {size : Nat} {u e : TypeId} (hu : P.underlying u = some (.slice e)) (ad : Addr) (m c : Nat) (news : List Value) (hl : news.length = m * size)
    (hc : ∀ j v, news[j]? = some v → w.cell? (ad.add j) = some v) (h1 : ∀ v ∈ news, v.oneCell' = true) : Src P w size u (.slice (some ad) m c) m news where
  ty := .inl ⟨_, hu⟩
  len := fun w' => by simp [Builtin.lenOf]
  cells := fun w' hw => run_firstCells_some (P := P) w' size m ad m c news hl (fun j v hj => by
    have := hc j v hj
    simpa [World.cell?, hw] using this)
  num := hl
  one := h1

theorem Src.none {P : Program} {w : World} {size : Nat} {u e : TypeId} (hu : P.underlying u = some (.slice e)) (c : Nat) : Src P w size u (.slice none 0 c) 0 [] where
  ty := .inl ⟨_, hu⟩
  len := fun w' => by simp [Builtin.lenOf]
  cells := fun w' _ => by simp [Builtin.firstCells]
  num := by simp
  one := by simp

def byteCells (l : List UInt8) : List Value := l.map fun b => .int .u8 (b.toNat : Int)

theorem byteCells_one (l : List UInt8) : ∀ v ∈ byteCells l, v.oneCell' = true := by
  intro v hv
  obtain ⟨_, _, rfl⟩ := List.mem_map.1 hv
  rfl

theorem Src.string {P : Program} {w : World} {u : TypeId} (hu : P.underlying u = some .string) (s : ByteArray) : Src P w 1 u (.string s) s.size (byteCells s.data.toList) where
  ty := .inr hu
  len := fun w' => by simp [Builtin.lenOf]
  cells := fun w' _ => by
    have : (byteCells s.data.toList).toArray = Array.map (fun b : UInt8 => Value.int IntKind.u8 (b.toNat : Int)) s.data := by
      apply Array.ext'
      simp [byteCells]
    rw [this]
    simp [Builtin.firstCells]
  num := by simp [byteCells]
  one := byteCells_one _

set_option maxHeartbeats 2000000 in
theorem run_append_row {P : Program} (w : World) (base : Nat) (t u ty e : TypeId) (i : TypeInfo) (z : Value) (size bytes : Nat) (ht : P.underlying t = some (.slice e)) (hi : P.info? e = some i) (hz : i.zero = some z)
    (hsize : i.size = size) (hby : i.bytes = bytes) (hzs : z.cells.size = size)
    (v : Value) (n : Nat) (xs : List Value) (hown : hasRow w base e size v n xs)
    (x : Value) (m : Nat) (news : List Value) (hsrc : Src P w size u x m news)
    (h63 : n + m ≤ maxLen) (hbytes : (n + m) * bytes ≤ 140737488355328) (hbase : base ≤ w.heap.size) :
    ∃ v' w', (Builtin.append_ #[t, u] ty #[v, x]).run P w = .ok v' w' ∧ hasRow w' base e size v' (n + m) (xs ++ news) ∧ w.grownBy w' v.ownBlock ∧
      (v' = .slice none 0 0 ↔ v = .slice none 0 0 ∧ m = 0) := by
  subst hsize
  subst hby
  have hlen := hsrc.len
  have hcs0 := hsrc.cells w rfl
  have hcs1 := hsrc.cells w.drew rfl
  have hl := hsrc.num
  have hsmall : n + m ≤ 9223372036854775807 := by simp only [maxLen] at h63; omega
  have hlen2 : (xs ++ news).length = (n + m) * i.size := by rw [List.length_append, hown.1, hl, Nat.add_mul]
  have grown : ∀ (old : Nat), old < n + m → ∀ (row : Option Nat),
      hasRow (w.drew.alloc (.cells (xs.toArray ++ news.toArray ++ Builtin.zeroCells z.cells (grownCap w (n + m) old e - (n + m))) e)) base e i.size
        (.slice (some ⟨w.heap.size, 0, none⟩) (n + m) (grownCap w (n + m) old e)) (n + m) (xs ++ news) ∧
      w.grownBy (w.drew.alloc (.cells (xs.toArray ++ news.toArray ++ Builtin.zeroCells z.cells (grownCap w (n + m) old e - (n + m))) e)) row := by
    intro old ho row
    have hge := grownCap_ge w (n + m) old e
    have hcm : grownCap w (n + m) old e ≤ maxLen := grownCap_le_maxLen w (n + m) old e h63
    refine ⟨⟨hlen2, .inr ⟨w.heap.size, _, _, (0, 0), rfl, hbase, heap_alloc_new w.drew _, hge, hcm, ?_, freeRow_zero _, ?_⟩⟩, ⟨rfl, rfl, rfl, by simp, fun k hk _ => (show (w.heap.push _)[k]? = w.heap[k]? by rw [Array.getElem?_push, if_neg (by omega)])⟩⟩
    · simp only [Array.size_append, List.size_toArray, size_zeroCells, hzs, hown.1, hl, ← Nat.add_mul]
      congr 1
      omega
    · simp only [Array.toList_append, List.append_assoc]
      rw [← List.append_assoc, ← hlen2]
      exact List.take_left
  rcases hown.2 with ⟨rfl, rfl⟩ | ⟨g, cap, cur, fr, rfl, hbg, hg, hnc, hcm, hcs, hfr, htake⟩
  · have hx : xs = [] := List.eq_nil_of_length_eq_zero (by simpa using hown.1)
    subst hx
    by_cases hm : m = 0
    · subst hm
      have hn : news = [] := List.eq_nil_of_length_eq_zero (by simpa using hl)
      subst hn
      refine ⟨.slice none 0 0, w, ?_, ⟨by simp, .inl ⟨rfl, rfl⟩⟩, ⟨rfl, rfl, rfl, Nat.le_refl _, fun _ _ _ => rfl⟩, by simp⟩
      rcases hsrc.ty with ⟨e', hd⟩ | hd <;> first | simp [Builtin.append_, run_underlying ht, run_underlying hd, sizeOf, typeInfo, hi, hlen, hcs0]
    · have hn : m ≠ 0 := hm
      have h63' : ¬ (9223372036854775807 < (m : Int)) := by omega
      have h48' : ¬ (281474976710656 < Builtin.nextslicecap m 0 * i.bytes) := by
        rw [nextslicecap_zero (by omega)]
        have hb := hbytes
        simp only [Nat.zero_add] at hb
        omega
      have hgr := grown 0 (by omega) (Value.ownBlock (.slice none 0 0))
      refine ⟨_, _, ?_, hgr.1, hgr.2, by simp [hm]⟩
      rcases hsrc.ty with ⟨e', hd⟩ | hd <;> first | (simp [Builtin.append_, run_underlying ht, run_underlying hd, sizeOf, typeInfo, zeroValue, hi, hz, hlen, hn, h63', h48', Question.forced, run_firstCells_none, hcs1, newRow, grownCap]; done)
  · by_cases hroom : n + m ≤ cap
    · have hfit : n * i.size + news.length ≤ cur.size := by rw [hl, hcs, ← Nat.add_mul]; exact Nat.mul_le_mul_right _ hroom
      have hst := run_storeCells_fr P g (n * i.size) e fr news 0 cur w hg hfr (by simpa using hfit) hsrc.one
      simp only [Nat.add_zero] at hst
      obtain ⟨C, hC⟩ : ∃ C, C = (cur.toList.take (n * i.size) ++ news ++ cur.toList.drop (n * i.size + news.length)).toArray := ⟨_, rfl⟩
      rw [← hC] at hst
      have hCs : C.size = cur.size := by
        rw [hC]
        simp only [List.size_toArray, List.length_append, List.length_take, List.length_drop, Array.length_toList]
        omega
      have hCt : C.toList.take ((n + m) * i.size) = xs ++ news := by
        rw [hC, ← hlen2, htake]
        exact List.take_left
      refine ⟨.slice (some ⟨g, 0, none⟩) (n + m) cap, w.setRow g C, ?_, ⟨hlen2, .inr ⟨g, cap, C, fr, rfl, hbg, setRow_heap w g cur C e fr hg, hroom, hcm, by rw [hCs, hcs], by rw [hCs]; exact hfr, hCt⟩⟩, ⟨rfl, rfl, rfl, by simp, fun k _ hk => setRow_other w g k _ (fun e => hk (by simp [e, Value.ownBlock]))⟩, by simp⟩
      rcases hsrc.ty with ⟨e', hd⟩ | hd <;> (simp [Builtin.append_, run_underlying ht, run_underlying hd, sizeOf, typeInfo, hi, hlen, hroom, hcs0, Addr.add_lit, hst]; done)
    · have hgr := grown cap (by omega) (Value.ownBlock (.slice (some ⟨g, 0, none⟩) n cap))
      have hn : ¬ (n + m ≤ cap) := hroom
      have h63' : ¬ (9223372036854775807 < ((n : Int) + (m : Int))) := by omega
      have h48' : ¬ (281474976710656 < Builtin.nextslicecap (n + m) cap * i.bytes) := by
        have := growslice_fits (old := cap) (need := n + m) (bytes := i.bytes) (by omega) hbytes
        omega
      have hfo := run_firstCells_some (P := P) w.drew i.size n ⟨g, 0, none⟩ n cap xs hown.1 (fun j u hu => by
        have := hown.cells (g := g) rfl j u hu
        simpa using this)
      refine ⟨_, _, ?_, hgr.1, hgr.2, by simp⟩
      rcases hsrc.ty with ⟨e', hd⟩ | hd <;> first | (simp [Builtin.append_, run_underlying ht, run_underlying hd, sizeOf, typeInfo, zeroValue, hi, hz, hlen, hn, h63', h48', Question.forced, hcs1, hfo, newRow, grownCap]; done) | (simp [Builtin.append_, run_underlying ht, run_underlying hd, sizeOf, typeInfo, zeroValue, hi, hz, hlen, hn, h63', h48', Question.forced, hcs1, hfo, newRow, grownCap]; congr 2; apply Array.ext'; simp [List.append_assoc]; done)


theorem wpList_append_row {P : Program} (w : World) {ops : Array Oper} {rest : List Oper} {o : Oper} {a : Act} {Q : Exit → Act → World → Prop} (hgd : o.guard = none) (s x : Operand) (t u : TypeId)
    (ho : o.op = .call { callee := .builtin .append, args := #[s, x], argTypes := #[t, u] })
    (base : Nat) (e : TypeId) (z : Value) (size bytes : Nat) (ht : P.underlying t = some (.slice e)) (hinfo : (P.info? e).map (fun i => (i.zero, i.size, i.bytes)) = some (some z, size, bytes)) (hzs : z.cells.size = size)
    (v : Value) (n : Nat) (xs : List Value) (hs : a.eval s = v) (hown : hasRow w base e size v n xs)
    (xv : Value) (m : Nat) (news : List Value) (hx : a.eval x = xv) (hsrc : Src P w size u xv m news)
    (h63 : n + m ≤ maxLen) (hbytes : (n + m) * bytes ≤ 140737488355328) (hbase : base ≤ w.heap.size)
    (h : ∀ v' w', hasRow w' base e size v' (n + m) (xs ++ news) → w.grownBy w' v.ownBlock → (v' = .slice none 0 0 ↔ v = .slice none 0 0 ∧ m = 0) → wpList P ops Q rest (a.put o.dst v') w') : wpList P ops Q (o :: rest) a w := by
  refine wpList_plain hgd fun K hK' => ?_
  obtain ⟨i, hi, hz, hsz, hby⟩ := info_parts hinfo
  obtain ⟨v', w', hrun, r1, r2, r3⟩ := run_append_row (P := P) w base t u o.type e i z size bytes ht hi hz hsz hby hzs v n xs hown xv m news hsrc h63 hbytes hbase
  unfold Oper.wp
  simp [execOp, ho, resolve, invoke, builtin, hs, hx, hrun, Result.andThen]
  exact hK' _ _ (h v' w' r1 r2 r3)

theorem run_bytes_row {P : Program} (w : World) (base : Nat) (src dst e : TypeId) (s : ByteArray) (hs : P.underlying src = some .string) (hd : P.underlying dst = some (.slice e)) (he : P.underlying e = some (.int .u8))
    (hbase : base ≤ w.heap.size) (hlen : s.size ≤ maxLen) :
    ∃ v w', (convert src dst (.string s)).run P w = .ok v w' ∧ hasRow w' base e 1 v s.size (byteCells s.data.toList) ∧ w.grownBy w' none ∧ v.ownBlock = some w.heap.size ∧ w'.heap.size = w.heap.size + 1 := by
  have hge := grownCap_ge w s.size 0 e
  have hle := grownCap_le_maxLen w s.size 0 e hlen
  refine ⟨_, _, run_bytes_of_string w src dst e s hs hd he, ⟨by simp [byteCells], .inr ⟨_, _, _, _, rfl, hbase, heap_alloc_new w.drew _, hge, hle, ?_, freeRow_mark _, ?_⟩⟩, ⟨rfl, rfl, rfl, by simp, fun k hk _ => (show (w.heap.push _)[k]? = w.heap[k]? by rw [Array.getElem?_push, if_neg (by omega)])⟩, rfl, by simp⟩
  · simp [bytesRow]; omega
  · simp only [bytesRow, Array.toList_append, Nat.mul_one]
    rw [List.take_append_of_le_length (by simp), List.take_of_length_le (by simp)]
    simp [byteCells]

theorem run_bytes_read {P : Program} (w : World) (src dst e : TypeId) (s : ByteArray) (hs : P.underlying src = some .string) (hd : P.underlying dst = some (.slice e)) (he : P.underlying e = some (.int .u8)) :
    ∃ cap w', (convert src dst (.string s)).run P w = .ok (.slice (some ⟨w.heap.size, 0, none⟩) s.size cap) w' ∧ s.size ≤ cap ∧ (∀ j (h : j < s.size), w'.cell? ⟨w.heap.size, j, none⟩ = some (.int .u8 (s[j].toNat : Int))) ∧ Below w.heap.size w w' ∧ w'.heap.size = w.heap.size + 1 := by
  refine ⟨_, _, run_bytes_of_string w src dst e s hs hd he, grownCap_ge w s.size 0 e, fun j hj => ?_, (Below.refl _ _).drew.alloc (Nat.le_refl _) _, by simp⟩
  have hb : (w.drew.alloc (.cells (bytesRow s (grownCap w s.size 0 e)) e ((bytesRow s (grownCap w s.size 0 e)).size, (bytesRow s (grownCap w s.size 0 e)).size + 1))).heap[w.heap.size]? = some (.cells (bytesRow s (grownCap w s.size 0 e)) e ((bytesRow s (grownCap w s.size 0 e)).size, (bytesRow s (grownCap w s.size 0 e)).size + 1)) := heap_alloc_new w.drew _
  rw [cell_of_row _ _ j _ _ _ hb]
  have hj' : j < s.data.size := hj
  simp only [bytesRow]
  rw [Array.getElem?_append_left (by simpa using hj')]
  simp
  exact ⟨_, Array.getElem?_eq_getElem hj', rfl⟩

theorem run_string_row {P : Program} (w : World) (base : Nat) (src dst e : TypeId) (v : Value) (l : List UInt8) (hs : P.underlying src = some (.slice e)) (he : P.underlying e = some (.int .u8)) (hd : P.underlying dst = some .string)
    (hown : hasRow w base e 1 v l.length (byteCells l)) : (convert src dst v).run P w = .ok (.string ⟨l.toArray⟩) w := by
  rcases hown.2 with ⟨rfl, hn⟩ | ⟨g, cap, cur, fr, rfl, hbg, hg, hnc, hcm, hcs, hfr, htake⟩
  · have hl : l = [] := List.eq_nil_of_length_eq_zero hn
    subst hl
    simp [convert, run_underlying hs, run_underlying hd, run_underlying he, Conv.bytesToString]
    rfl
  · refine run_convert_bytes_back w src dst e ⟨g, 0, none⟩ cap l hs he hd fun j hj => ?_
    refine hown.cells (g := g) rfl j _ ?_
    simp [byteCells, hj]

theorem str_eq_true {a b : ByteArray} (h : a = b) : (a.toList == b.toList) = true := by rw [h]; simp
theorem str_eq_false {a b : ByteArray} (h : ¬ a = b) : (a.toList == b.toList) = false := by
  rw [beq_eq_false_iff_ne]
  intro e
  rw [ByteArray.toList_eq, ByteArray.toList_eq] at e
  exact h (ByteArray.ext (Array.ext' e))

theorem grownBy.below {w0 w w' : World} {B : Nat} {row : Option Nat} (h : Below B w0 w) (hg : w.grownBy w' row) (hB : B ≤ w.heap.size) (hr : ∀ k, row = some k → B ≤ k) : Below B w0 w' := h.grown hg hB hr

end Go.Proofs.YtlgcoaeddeiegaaGreat
/- Disk: a map from names to files, as a ghost: its keys and the blocks at them; what may turn. -/
namespace Go.Proofs.YtlgcoaeddeiegaaGreat
open Go Go.Maps Go.RowKit

def ptrElem : Value → Option (DataW Unit × List MemPlace)
  | .pointer (some ⟨b, 0, none⟩) => some (.lit (.int .i64 b), [])
  | .pointer none => some (.nil, [])
  | _ => none
theorem ptrElem_mk (b : Nat) : ptrElem (.pointer (some ⟨b, 0, none⟩)) = some (.lit (.int .i64 b), []) := rfl
theorem ptrElem_nil : ptrElem (.pointer none) = some (.nil, []) := rfl
theorem ptrElem_inv {v : Value} {b : Nat} {ps : List MemPlace} (h : ptrElem v = some (.lit (.int .i64 b), ps)) : v = .pointer (some ⟨b, 0, none⟩) := by
  unfold ptrElem at h
  split at h
  · simp at h
    have h1 := Int.ofNat_inj.1 h.1
    rw [h1]
  · simp at h
  · cases h
theorem ptrElem_inv_nil {v : Value} {ps : List MemPlace} (h : ptrElem v = some (.nil, ps)) : v = .pointer none := by
  unfold ptrElem at h
  split at h
  · simp at h
  · rfl
  · cases h

structure Only (S : Nat → Prop) (w w' : World) : Prop where
  os : w'.os = w.os
  tape : w'.tape = w.tape
  output : w'.output = w.output
  size : w.heap.size ≤ w'.heap.size
  block : ∀ k, k < w.heap.size → ¬ S k → w'.heap[k]? = w.heap[k]?
theorem Only.refl (S : Nat → Prop) (w : World) : Only S w w := ⟨rfl, rfl, rfl, Nat.le_refl _, fun _ _ _ => rfl⟩
theorem Only.trans {S T : Nat → Prop} {a b c : World} (h : Only S a b) (k : Only T b c) (hT : ∀ i, i < a.heap.size → T i → S i) : Only S a c :=
  ⟨k.os.trans h.os, k.tape.trans h.tape, k.output.trans h.output, Nat.le_trans h.size k.size, fun i hi hn => (k.block i (Nat.lt_of_lt_of_le hi h.size) (fun ht => hn (hT i hi ht))).trans (h.block i hi hn)⟩
theorem Only.mono {S T : Nat → Prop} {a b : World} (h : Only S a b) (hT : ∀ i, i < a.heap.size → S i → T i) : Only T a b :=
  ⟨h.os, h.tape, h.output, h.size, fun i hi hn => h.block i hi (fun hs => hn (hT i hi hs))⟩
theorem Only.of_below {B : Nat} {w w' : World} (h : Below B w w') (hB : w.heap.size ≤ B) (S : Nat → Prop) : Only S w w' :=
  ⟨h.os, h.tape, h.output, h.size, fun i hi _ => h.block i (Nat.lt_of_lt_of_le hi hB)⟩
theorem Only.below {S : Nat → Prop} {B : Nat} {w w' : World} (h : Only S w w') (hS : ∀ i, i < B → ¬ S i) (hB : B ≤ w.heap.size) : Below B w w' :=
  ⟨h.os, h.tape, h.output, h.size, fun i hi => h.block i (Nat.lt_of_lt_of_le hi hB) (hS i hi)⟩
theorem Only.of_grown {S : Nat → Prop} {w w' : World} {row : Option Nat} (h : w.grownBy w' row) (hS : ∀ k, row = some k → S k) : Only S w w' :=
  ⟨h.os, h.tape, h.output, h.size, fun i hi hn => h.block i hi (fun e => hn (hS i e.symm))⟩

structure Dic (D : DataW Unit) (L : List (List UInt8 × Nat)) : Prop where
  has : ∀ x, has D (.string x) = true ↔ ∃ f ∈ L, f.1 = x
  get : ∀ f ∈ L, ∀ z, D.atKey (.string f.1) z = .lit (.int .i64 f.2)
  isMap : IsMap D
theorem Dic.empty : Dic (.map []) [] := ⟨fun x => by simp [Maps.has], fun f hf => (by cases hf), isMap_empty⟩
theorem keyLit_string (x : List UInt8) : WideAt.IsKeyLit (.string x) := trivial
theorem Dic.put {D : DataW Unit} {L : List (List UInt8 × Nat)} (h : Dic D L) (x : List UInt8) (b : Nat) {L' : List (List UInt8 × Nat)} (hL : ∀ f, f ∈ L' ↔ f = (x, b) ∨ f ∈ L) (hx : ∀ f ∈ L, f.1 ≠ x) : Dic (D.put (.string x) (.lit (.int .i64 b))) L' := by
  refine ⟨fun y => ?_, fun f hf z => ?_, h.isMap.put _ _⟩
  · by_cases hy : y = x
    · subst hy
      rw [has_put_same h.isMap (keyLit_string _)]
      simp only [true_iff]
      exact ⟨(y, b), (hL _).2 (.inl rfl), rfl⟩
    · rw [has_put_other (by simpa using hy), h.has y]
      constructor
      · rintro ⟨f, hf, rfl⟩
        exact ⟨f, (hL f).2 (.inr hf), rfl⟩
      · rintro ⟨f, hf, rfl⟩
        rcases (hL f).1 hf with rfl | hf
        · exact absurd rfl hy
        · exact ⟨f, hf, rfl⟩
  · rcases (hL f).1 hf with rfl | hf
    · exact atKey_put_same h.isMap (keyLit_string _) _ _
    · rw [atKey_put_other (by simpa using hx f hf)]
      exact h.get f hf z
theorem Dic.del {D : DataW Unit} {L : List (List UInt8 × Nat)} (h : Dic D L) (x : List UInt8) {L' : List (List UInt8 × Nat)} (hL : ∀ f, f ∈ L' ↔ f ∈ L ∧ f.1 ≠ x) : Dic (D.del (.string x)) L' := by
  refine ⟨fun y => ?_, fun f hf z => ?_, h.isMap.del _⟩
  · by_cases hy : y = x
    · subst hy
      rw [has_del_same]
      constructor
      · intro h0; cases h0
      · rintro ⟨f, hf, he⟩
        exact absurd he ((hL f).1 hf).2
    · rw [has_del_other (by simpa using hy), h.has y]
      constructor
      · rintro ⟨f, hf, rfl⟩
        exact ⟨f, (hL f).2 ⟨hf, hy⟩, rfl⟩
      · rintro ⟨f, hf, rfl⟩
        exact ⟨f, ((hL f).1 hf).1, rfl⟩
  · have := (hL f).1 hf
    rw [atKey_del_other (by simpa using this.2)]
    exact h.get f this.1 z
end Go.Proofs.YtlgcoaeddeiegaaGreat
/- record: the plain law: numbers as bytes, sums, records and batches as bytes. -/
namespace Go.Proofs.YtlgcoaeddeiegaaGreat
open Go Go.RowKit

def leT : Nat → Nat → List UInt8
  | _, 0 => []
  | x, n + 1 => UInt8.ofNat (x % 256) :: leT (x / 256) n
def getT : List UInt8 → Nat
  | [] => 0
  | b :: r => b.toNat + 256 * getT r
theorem leT_len : ∀ (n x : Nat), (leT x n).length = n
  | 0, _ => rfl
  | n + 1, x => by rw [leT, List.length_cons, leT_len n]
theorem getT_leT : ∀ (n x : Nat), x < 256 ^ n → getT (leT x n) = x
  | 0, x, h => by
    have : x < 1 := by simpa using h
    show 0 = x
    omega
  | n + 1, x, h => by
    have h1 : x / 256 < 256 ^ n := by
      rw [Nat.div_lt_iff_lt_mul (by decide)]
      rw [Nat.pow_succ] at h
      exact h
    show (UInt8.ofNat (x % 256)).toNat + 256 * getT (leT (x / 256) n) = x
    rw [getT_leT n _ h1]
    have h2 : (UInt8.ofNat (x % 256)).toNat = x % 256 := by
      rw [UInt8.toNat_ofNat']
      omega
    rw [h2]
    omega
theorem getT_lt : ∀ (l : List UInt8), getT l < 256 ^ l.length
  | [] => by decide
  | b :: r => by
    have h1 := getT_lt r
    have h2 : b.toNat < 256 := b.toNat_lt
    show b.toNat + 256 * getT r < 256 ^ (r.length + 1)
    rw [Nat.pow_succ]
    have : 256 * getT r + 256 ≤ 256 ^ r.length * 256 := by
      have := Nat.mul_le_mul_right 256 (Nat.succ_le_of_lt h1)
      omega
    omega
theorem u32_wrap (n : Int) : IntKind.u32.wrap n = n % 4294967296 := by
  unfold IntKind.wrap
  have : (IntKind.u32.signed) = false := rfl
  rw [this]
  simp [IntKind.bits]
theorem u32_bits (op : BinOp) (x y : Int) : 0 ≤ bits op .u32 x y ∧ bits op .u32 x y < 4294967296 := by
  show 0 ≤ IntKind.u32.wrap _ ∧ IntKind.u32.wrap _ < 4294967296
  rw [u32_wrap]
  exact ⟨Int.emod_nonneg _ (by decide), Int.emod_lt_of_pos _ (by decide)⟩
theorem u32_and15 (x : Int) : bits .and .u32 x 15 = x % 16 := by
  have h15 : (BitVec.ofInt 32 15).toNat = 2 ^ 4 - 1 := by decide
  have key : (BitVec.ofInt 32 x &&& BitVec.ofInt 32 15).toNat = (x % ((2 ^ 32 : Nat) : Int)).toNat % 2 ^ 4 := by
    rw [BitVec.toNat_and, BitVec.toNat_ofInt, h15, Nat.and_two_pow_sub_one_eq_mod]
  show IntKind.u32.wrap ((BitVec.ofInt 32 x &&& BitVec.ofInt 32 15).toNat : Nat) = x % 16
  rw [key, u32_wrap]
  omega
def crcBit (x : Int) : Int := bits .xor .u32 (x / 2) (bits .and .u32 2197175160 (-bits .and .u32 x 1 % 4294967296))
def crcFour (i : Nat) : Int := crcBit (crcBit (crcBit (crcBit (i : Int))))
def crcHalf (x : Int) : Int := bits .xor .u32 (crcFour (x % 16).toNat) (x / 16)
def crcByte (x : Int) (c : UInt8) : Int := crcHalf (crcHalf (bits .xor .u32 x (c.toNat : Int)))
def crcInto (x : Int) (l : List UInt8) : Int := l.foldl crcByte x
def crcSum (l : List UInt8) : Int := bits .xor .u32 4294967295 (crcInto 4294967295 l)
theorem crcHalf_u32 (x : Int) : 0 ≤ crcHalf x ∧ crcHalf x < 4294967296 := u32_bits _ _ _
theorem crcByte_u32 (x : Int) (c : UInt8) : 0 ≤ crcByte x c ∧ crcByte x c < 4294967296 := crcHalf_u32 _
theorem crcInto_u32 : ∀ (l : List UInt8) (x : Int), 0 ≤ x ∧ x < 4294967296 → 0 ≤ crcInto x l ∧ crcInto x l < 4294967296
  | [], _, h => h
  | c :: l, x, _ => crcInto_u32 l (crcByte x c) (crcByte_u32 x c)
theorem crcSum_u32 (l : List UInt8) : 0 ≤ crcSum l ∧ crcSum l < 4294967296 := u32_bits _ _ _

structure Rc where
  time : Int
  key : List UInt8
  val : List UInt8
deriving DecidableEq
def Rc.ok (r : Rc) : Bool := decide (0 ≤ r.time) && decide (r.time ≤ 9007199254740992) && decide (r.key.length ≤ 256) && decide (r.val.length ≤ 4096)
def Rc.size (r : Rc) : Nat := 12 + r.key.length + r.val.length
def rcsSize (l : List Rc) : Nat := 20 + (l.map Rc.size).sum
def fitsT (l : List Rc) : Nat × Int :=
  if l = [] then (0, 2) else if l.any (fun r => !r.ok) then (0, 2) else if 256 < l.length then (0, 8) else if 65536 < rcsSize l then (0, 8) else (rcsSize l, 0)
def Rc.bytes (r : Rc) : List UInt8 := leT r.time.toNat 8 ++ leT r.key.length 2 ++ leT r.val.length 2 ++ r.key ++ r.val
def bodyT (base : Int) (l : List Rc) : List UInt8 := leT base.toNat 8 ++ leT l.length 4 ++ l.flatMap Rc.bytes
def batchT (base : Int) (l : List Rc) : List UInt8 := leT (rcsSize l - 4) 4 ++ leT (crcSum (bodyT base l)).toNat 4 ++ bodyT base l
theorem Rc.bytes_len (r : Rc) : r.bytes.length = r.size := by
  unfold Rc.bytes Rc.size
  simp only [List.length_append, leT_len]
theorem flat_len : ∀ (l : List Rc), (l.flatMap Rc.bytes).length = (l.map Rc.size).sum
  | [] => rfl
  | r :: l => by rw [List.flatMap_cons, List.length_append, r.bytes_len, flat_len l, List.map_cons, List.sum_cons]
theorem bodyT_len (base : Int) (l : List Rc) : (bodyT base l).length = rcsSize l - 8 := by
  unfold bodyT rcsSize
  rw [List.length_append, List.length_append, leT_len, leT_len, flat_len]
  omega
theorem batchT_len (base : Int) (l : List Rc) : (batchT base l).length = rcsSize l := by
  unfold batchT
  rw [List.length_append, List.length_append, leT_len, leT_len, bodyT_len]
  unfold rcsSize
  omega
def putOk (base : Int) (l : List Rc) : Bool := !(decide ((fitsT l).2 = 2) || decide (base < 0) || decide (9007199254740992 < base) || decide (9007199254740992 < base + (l.length : Int) - 1))
def putT (base : Int) (l : List Rc) : List UInt8 × Int :=
  if putOk base l = false then ([], 2) else if (fitsT l).2 ≠ 0 then ([], (fitsT l).2) else (batchT base l, 0)
end Go.Proofs.YtlgcoaeddeiegaaGreat
/- Disk: rows that begin anywhere in a block and need not fill it; append to them. -/
namespace Go.Proofs.YtlgcoaeddeiegaaGreat
open Go Go.RowKit

def rowAt (w : World) (e : TypeId) (size : Nat) (v : Value) (n : Nat) (xs : List Value) : Prop :=
  xs.length = n * size ∧
  ((v = .slice none 0 0 ∧ n = 0) ∨
   ∃ g off cap cur fr, v = .slice (some ⟨g, off, none⟩) n cap ∧ w.heap[g]? = some (.cells cur e fr) ∧ n ≤ cap ∧ cap ≤ maxLen ∧ off + cap * size ≤ cur.size ∧ freeRow fr cur.size ∧ (cur.toList.drop off).take (n * size) = xs)

section
variable {w : World} {base : Nat} {e : TypeId} {size : Nat} {v : Value} {n : Nat} {xs : List Value}
theorem rowAt.of_row (h : hasRow w base e size v n xs) : rowAt w e size v n xs := by
  refine ⟨h.1, ?_⟩
  rcases h.2 with h2 | ⟨g, cap, cur, fr, hv, _, hg, hn, hm, hs, hf, ht⟩
  · exact .inl h2
  · exact .inr ⟨g, 0, cap, cur, fr, hv, hg, hn, hm, by omega, hf, by simpa using ht⟩
theorem rowAt.kept {w' : World} (h : rowAt w e size v n xs) (hk : ∀ k, v.ownBlock = some k → w'.heap[k]? = w.heap[k]?) : rowAt w' e size v n xs := by
  refine ⟨h.1, ?_⟩
  rcases h.2 with hn | ⟨g, off, cap, cur, fr, rfl, hgg, rest⟩
  · exact .inl hn
  · exact .inr ⟨g, off, cap, cur, fr, rfl, (hk g rfl).trans hgg, rest⟩
theorem rowAt.lt (h : rowAt w e size v n xs) : ∀ k, v.ownBlock = some k → k < w.heap.size := by
  intro k hk
  rcases h.2 with ⟨rfl, _⟩ | ⟨g, off, cap, cur, fr, rfl, hg, _⟩
  · simp [Value.ownBlock] at hk
  · simp [Value.ownBlock] at hk
    subst hk
    exact (Array.getElem?_eq_some_iff.1 hg).1
theorem rowAt.cells {g off m c : Nat} (h : rowAt w e size v n xs) (hg : v = .slice (some ⟨g, off, none⟩) m c) : ∀ j u, xs[j]? = some u → w.cell? ((⟨g, off, none⟩ : Addr).add j) = some u := by
  intro j u hu
  rcases h.2 with ⟨rfl, _⟩ | ⟨g', o', cap, cur, fr, rfl, hgg, _, _, _, _, htake⟩
  · cases hg
  · simp only [Value.slice.injEq, Option.some.injEq, Addr.mk.injEq] at hg
    obtain ⟨⟨rfl, rfl, -⟩, -, -⟩ := hg
    rw [Go.WideShapes.add_plain, cell_of_row w g' (o' + j) cur e fr hgg]
    rw [← htake, List.getElem?_take] at hu
    split at hu
    · simpa using hu
    · cases hu
end

set_option maxHeartbeats 2000000 in
theorem run_append_at {P : Program} (w : World) (t u ty e : TypeId) (i : TypeInfo) (z : Value) (size bytes : Nat) (ht : P.underlying t = some (.slice e)) (hi : P.info? e = some i) (hz : i.zero = some z)
    (hsize : i.size = size) (hby : i.bytes = bytes) (hzs : z.cells.size = size)
    (v : Value) (n : Nat) (xs : List Value) (hown : rowAt w e size v n xs)
    (x : Value) (m : Nat) (news : List Value) (hsrc : Src P w size u x m news)
    (h63 : n + m ≤ maxLen) (hbytes : (n + m) * bytes ≤ 140737488355328) :
    ∃ v' w', (Builtin.append_ #[t, u] ty #[v, x]).run P w = .ok v' w' ∧ rowAt w' e size v' (n + m) (xs ++ news) ∧ w.grownBy w' v.ownBlock ∧ (v'.ownBlock = v.ownBlock ∨ v'.ownBlock = some w.heap.size) ∧
      (v' = .slice none 0 0 ↔ v = .slice none 0 0 ∧ m = 0) := by
  subst hsize
  subst hby
  have hlen := hsrc.len
  have hcs0 := hsrc.cells w rfl
  have hcs1 := hsrc.cells w.drew rfl
  have hl := hsrc.num
  have hsmall : n + m ≤ 9223372036854775807 := by simp only [maxLen] at h63; omega
  have hlen2 : (xs ++ news).length = (n + m) * i.size := by rw [List.length_append, hown.1, hl, Nat.add_mul]
  have grown : ∀ (old : Nat), old < n + m → ∀ (row : Option Nat),
      rowAt (w.drew.alloc (.cells (xs.toArray ++ news.toArray ++ Builtin.zeroCells z.cells (grownCap w (n + m) old e - (n + m))) e)) e i.size
        (.slice (some ⟨w.heap.size, 0, none⟩) (n + m) (grownCap w (n + m) old e)) (n + m) (xs ++ news) ∧
      w.grownBy (w.drew.alloc (.cells (xs.toArray ++ news.toArray ++ Builtin.zeroCells z.cells (grownCap w (n + m) old e - (n + m))) e)) row := by
    intro old ho row
    have hge := grownCap_ge w (n + m) old e
    have hcm : grownCap w (n + m) old e ≤ maxLen := grownCap_le_maxLen w (n + m) old e h63
    refine ⟨⟨hlen2, .inr ⟨w.heap.size, 0, _, _, (0, 0), rfl, heap_alloc_new w.drew _, hge, hcm, ?_, freeRow_zero _, ?_⟩⟩, ⟨rfl, rfl, rfl, by simp, fun k hk _ => (show (w.heap.push _)[k]? = w.heap[k]? by rw [Array.getElem?_push, if_neg (by omega)])⟩⟩
    · refine Nat.le_of_eq ?_
      simp only [Array.size_append, List.size_toArray, size_zeroCells, hzs, hown.1, hl, ← Nat.add_mul, Nat.zero_add]
      congr 1
      omega
    · simp only [Array.toList_append, List.append_assoc, List.drop_zero]
      rw [← List.append_assoc, ← hlen2]
      exact List.take_left
  rcases hown.2 with ⟨rfl, rfl⟩ | ⟨g, off, cap, cur, fr, rfl, hg, hnc, hcm, hcs, hfr, htake⟩
  · have hx : xs = [] := List.eq_nil_of_length_eq_zero (by simpa using hown.1)
    subst hx
    by_cases hm : m = 0
    · subst hm
      have hn : news = [] := List.eq_nil_of_length_eq_zero (by simpa using hl)
      subst hn
      refine ⟨.slice none 0 0, w, ?_, ⟨by simp, .inl ⟨rfl, rfl⟩⟩, ⟨rfl, rfl, rfl, Nat.le_refl _, fun _ _ _ => rfl⟩, .inl rfl, by simp⟩
      rcases hsrc.ty with ⟨e', hd⟩ | hd <;> first | simp [Builtin.append_, run_underlying ht, run_underlying hd, sizeOf, typeInfo, hi, hlen, hcs0]
    · have hn : m ≠ 0 := hm
      have h63' : ¬ (9223372036854775807 < (m : Int)) := by omega
      have h48' : ¬ (281474976710656 < Builtin.nextslicecap m 0 * i.bytes) := by
        rw [nextslicecap_zero (by omega)]
        have hb := hbytes
        simp only [Nat.zero_add] at hb
        omega
      have hgr := grown 0 (by omega) (Value.ownBlock (.slice none 0 0))
      refine ⟨_, _, ?_, hgr.1, hgr.2, .inr rfl, by simp [hm]⟩
      rcases hsrc.ty with ⟨e', hd⟩ | hd <;> first | (simp [Builtin.append_, run_underlying ht, run_underlying hd, sizeOf, typeInfo, zeroValue, hi, hz, hlen, hn, h63', h48', Question.forced, run_firstCells_none, hcs1, newRow, grownCap]; done)
  · by_cases hroom : n + m ≤ cap
    · have hfit : off + n * i.size + news.length ≤ cur.size := by
        have h1 : (n + m) * i.size ≤ cap * i.size := Nat.mul_le_mul_right _ hroom
        rw [Nat.add_mul] at h1
        rw [hl]
        omega
      have hst := run_storeCells_fr P g (off + n * i.size) e fr news 0 cur w hg hfr (by simpa using hfit) hsrc.one
      simp only [Nat.add_zero] at hst
      obtain ⟨C, hC⟩ : ∃ C, C = (cur.toList.take (off + n * i.size) ++ news ++ cur.toList.drop (off + n * i.size + news.length)).toArray := ⟨_, rfl⟩
      rw [← hC] at hst
      have hCs : C.size = cur.size := by
        rw [hC]
        simp only [List.size_toArray, List.length_append, List.length_take, List.length_drop, Array.length_toList]
        omega
      have hCt : (C.toList.drop off).take ((n + m) * i.size) = xs ++ news := by
        rw [hC, ← hlen2]
        have h2 : (cur.toList.take (off + n * i.size)).drop off = xs := by rw [List.drop_take, ← htake]; congr 1; omega
        rw [List.append_assoc, List.drop_append_of_le_length (by rw [List.length_take, Array.length_toList]; omega), h2, ← List.append_assoc]
        exact List.take_left
      refine ⟨.slice (some ⟨g, off, none⟩) (n + m) cap, w.setRow g C, ?_, ⟨hlen2, .inr ⟨g, off, cap, C, fr, rfl, setRow_heap w g cur C e fr hg, hroom, hcm, by rw [hCs]; exact hcs, by rw [hCs]; exact hfr, hCt⟩⟩, ⟨rfl, rfl, rfl, by simp, fun k _ hk => setRow_other w g k _ (fun e => hk (by simp [e, Value.ownBlock]))⟩, .inl rfl, by simp⟩
      rcases hsrc.ty with ⟨e', hd⟩ | hd <;> (simp [Builtin.append_, run_underlying ht, run_underlying hd, sizeOf, typeInfo, hi, hlen, hroom, hcs0, Go.WideShapes.add_plain, hst]; done)
    · have hgr := grown cap (by omega) (Value.ownBlock (.slice (some ⟨g, off, none⟩) n cap))
      have hn : ¬ (n + m ≤ cap) := hroom
      have h63' : ¬ (9223372036854775807 < ((n : Int) + (m : Int))) := by omega
      have h48' : ¬ (281474976710656 < Builtin.nextslicecap (n + m) cap * i.bytes) := by
        have := growslice_fits (old := cap) (need := n + m) (bytes := i.bytes) (by omega) hbytes
        omega
      have hfo := run_firstCells_some (P := P) w.drew i.size n ⟨g, off, none⟩ n cap xs hown.1 (fun j u hu => by
        have := hown.cells (g := g) (off := off) rfl j u hu
        simpa [Go.WideShapes.add_plain] using this)
      refine ⟨_, _, ?_, hgr.1, hgr.2, .inr rfl, by simp⟩
      rcases hsrc.ty with ⟨e', hd⟩ | hd <;> first | (simp [Builtin.append_, run_underlying ht, run_underlying hd, sizeOf, typeInfo, zeroValue, hi, hz, hlen, hn, h63', h48', Question.forced, hcs1, hfo, newRow, grownCap]; done) | (simp [Builtin.append_, run_underlying ht, run_underlying hd, sizeOf, typeInfo, zeroValue, hi, hz, hlen, hn, h63', h48', Question.forced, hcs1, hfo, newRow, grownCap]; congr 2; apply Array.ext'; simp [List.append_assoc]; done)



theorem wpList_append_at {P : Program} (w : World) {ops : Array Oper} {rest : List Oper} {o : Oper} {a : Act} {Q : Exit → Act → World → Prop} (hgd : o.guard = none) (s x : Operand) (t u : TypeId)
    (ho : o.op = .call { callee := .builtin .append, args := #[s, x], argTypes := #[t, u] })
    (e : TypeId) (z : Value) (size bytes : Nat) (ht : P.underlying t = some (.slice e)) (hinfo : (P.info? e).map (fun i => (i.zero, i.size, i.bytes)) = some (some z, size, bytes)) (hzs : z.cells.size = size)
    (v : Value) (n : Nat) (xs : List Value) (hs : a.eval s = v) (hown : rowAt w e size v n xs)
    (xv : Value) (m : Nat) (news : List Value) (hx : a.eval x = xv) (hsrc : Src P w size u xv m news)
    (h63 : n + m ≤ maxLen) (hbytes : (n + m) * bytes ≤ 140737488355328)
    (h : ∀ v' w', rowAt w' e size v' (n + m) (xs ++ news) → w.grownBy w' v.ownBlock → (v'.ownBlock = v.ownBlock ∨ v'.ownBlock = some w.heap.size) → (v' = .slice none 0 0 ↔ v = .slice none 0 0 ∧ m = 0) → wpList P ops Q rest (a.put o.dst v') w') : wpList P ops Q (o :: rest) a w := by
  refine wpList_plain hgd fun K hK' => ?_
  obtain ⟨i, hi, hz, hsz, hby⟩ := info_parts hinfo
  obtain ⟨v', w', hrun, r1, r2, r3, r4⟩ := run_append_at (P := P) w t u o.type e i z size bytes ht hi hz hsz hby hzs v n xs hown xv m news hsrc h63 hbytes
  unfold Oper.wp
  simp [execOp, ho, resolve, invoke, builtin, hs, hx, hrun, Result.andThen]
  exact hK' _ _ (h v' w' r1 r2 r3 r4)
theorem rowAt.sub {w : World} {e : TypeId} {size : Nat} {oa : Option Addr} {n cap : Nat} {xs : List Value} (h : rowAt w e size (.slice oa n cap) n xs) (l k m : Nat) (hl : l ≤ k) (hk : k ≤ n) (hkm : k ≤ m) (hm : m ≤ cap) :
    rowAt w e size (.slice (if m = l then oa else oa.map (·.add (l * size))) (k - l) (m - l)) (k - l) ((xs.drop (l * size)).take ((k - l) * size)) := by
  have hlen : ((xs.drop (l * size)).take ((k - l) * size)).length = (k - l) * size := by
    rw [List.length_take, List.length_drop, h.1]
    have h1 : k * size ≤ n * size := Nat.mul_le_mul_right _ hk
    have h2 : (k - l) * size = k * size - l * size := Nat.sub_mul _ _ _
    omega
  refine ⟨hlen, ?_⟩
  rcases h.2 with ⟨hv, h0⟩ | ⟨g, off, c, cur, fr, hv, hg, hnc, hcm, hcs, hfr, ht⟩
  · simp only [Value.slice.injEq] at hv
    obtain ⟨rfl, -, rfl⟩ := hv
    obtain rfl : m = 0 := by omega
    obtain rfl : l = 0 := by omega
    obtain rfl : k = 0 := by omega
    exact .inl ⟨by simp, rfl⟩
  · simp only [Value.slice.injEq] at hv
    obtain ⟨rfl, -, rfl⟩ := hv
    refine .inr ⟨g, if m = l then off else off + l * size, m - l, cur, fr, ?_, hg, by omega, by omega, ?_, hfr, ?_⟩
    · split
      · rfl
      · simp [Go.WideShapes.add_plain]
    · have h1 : (m - l) * size = m * size - l * size := Nat.sub_mul _ _ _
      have h2 : m * size ≤ cap * size := Nat.mul_le_mul_right _ hm
      have h3 : l * size ≤ m * size := Nat.mul_le_mul_right _ (by omega)
      split
      · rename_i he
        subst he
        omega
      · omega
    · split
      · rename_i he
        have hkl : k - l = 0 := by omega
        rw [hkl]; simp
      · rw [← ht, List.drop_take, List.take_take, List.drop_drop]
        congr 1
        have h1 : (k - l) * size = k * size - l * size := Nat.sub_mul _ _ _
        have h2 : k * size ≤ n * size := Nat.mul_le_mul_right _ hk
        omega
def readAt (w : World) (size : Nat) (v : Value) (n : Nat) (xs : List Value) : Prop :=
  xs.length = n * size ∧
  ((n = 0 ∧ ∃ oa cap, v = .slice oa 0 cap ∧ (oa = none → cap = 0)) ∨
   ∃ g off cap, v = .slice (some ⟨g, off, none⟩) n cap ∧ 0 < n ∧ g < w.heap.size ∧ n ≤ cap ∧ ∀ j u, xs[j]? = some u → w.cell? ⟨g, off + j, none⟩ = some u)
section
variable {w : World} {e : TypeId} {size : Nat} {v : Value} {n : Nat} {xs : List Value}
theorem rowAt.read (h : rowAt w e size v n xs) : readAt w size v n xs := by
  refine ⟨h.1, ?_⟩
  by_cases h0 : n = 0
  · refine .inl ⟨h0, ?_⟩
    subst h0
    rcases h.2 with ⟨rfl, _⟩ | ⟨g, off, cap, cur, fr, rfl, _⟩
    · exact ⟨none, 0, rfl, fun _ => rfl⟩
    · exact ⟨_, _, rfl, fun h => by cases h⟩
  rcases h.2 with h2 | ⟨g, off, cap, cur, fr, rfl, hg, hn, hm, _, _, _⟩
  · exact absurd h2.2 h0
  · refine .inr ⟨g, off, cap, rfl, by omega, (Array.getElem?_eq_some_iff.1 hg).1, hn, fun j u hu => ?_⟩
    have := h.cells (g := g) (off := off) rfl j u hu
    simpa [Go.WideShapes.add_plain] using this
theorem readAt.kept {w' : World} (h : readAt w size v n xs) (hk : ∀ k, k < w.heap.size → v.ownBlock = some k → 0 < n → w'.heap[k]? = w.heap[k]?) : readAt w' size v n xs := by
  refine ⟨h.1, ?_⟩
  rcases h.2 with hn | ⟨g, off, cap, rfl, h0, hg, hn, hc⟩
  · exact .inl hn
  · have h1 := hk g hg rfl h0
    refine .inr ⟨g, off, cap, rfl, h0, ?_, hn, fun j u hu => ?_⟩
    · have h2 : w.heap[g]? = some w.heap[g] := Array.getElem?_eq_getElem hg
      rw [h2] at h1
      exact (Array.getElem?_eq_some_iff.1 h1).1
    · rw [← hc j u hu]
      simp only [World.cell?, h1]
theorem readAt.lt (h : readAt w size v n xs) (h0 : 0 < n) : ∀ k, v.ownBlock = some k → k < w.heap.size := by
  intro k hk
  rcases h.2 with ⟨hn, _⟩ | ⟨g, off, cap, rfl, _, hg, _⟩
  · omega
  · simp [Value.ownBlock] at hk
    subst hk
    exact hg
theorem readAt.cells {g off m c : Nat} (h : readAt w size v n xs) (hg : v = .slice (some ⟨g, off, none⟩) m c) : ∀ j u, xs[j]? = some u → w.cell? ((⟨g, off, none⟩ : Addr).add j) = some u := by
  intro j u hu
  rcases h.2 with ⟨rfl, _⟩ | ⟨g', o', cap, rfl, _, _, _, hc⟩
  · have := h.1
    rw [Nat.zero_mul] at this
    rw [List.eq_nil_of_length_eq_zero this] at hu
    cases hu
  · simp only [Value.slice.injEq, Option.some.injEq, Addr.mk.injEq] at hg
    obtain ⟨⟨rfl, rfl, -⟩, -, -⟩ := hg
    rw [Go.WideShapes.add_plain]
    exact hc j u hu
theorem readAt.shape (h : readAt w size v n xs) : ∃ oa cap, v = .slice oa n cap := by
  rcases h.2 with ⟨rfl, oa, cap, rfl, _⟩ | ⟨g, off, cap, rfl, _⟩
  · exact ⟨oa, cap, rfl⟩
  · exact ⟨_, _, rfl⟩
theorem readAt.addr {oa : Option Addr} {cap : Nat} (h : readAt w size (.slice oa n cap) n xs) (hn : 0 < n) : ∃ g off, oa = some ⟨g, off, none⟩ := by
  rcases h.2 with ⟨h0, _⟩ | ⟨g, off, c, hv, _⟩
  · omega
  · simp only [Value.slice.injEq] at hv
    exact ⟨g, off, hv.1⟩
theorem readAt.cap {oa : Option Addr} {cap : Nat} (h : readAt w size (.slice oa n cap) n xs) : n ≤ cap := by
  rcases h.2 with ⟨h0, _⟩ | ⟨g, off, c, hv, _, _, hn, _⟩
  · omega
  · simp only [Value.slice.injEq] at hv
    rw [hv.2.2]; exact hn
theorem readAt.take {oa : Option Addr} {cap : Nat} (h : readAt w size (.slice oa n cap) n xs) (k : Nat) (hk : k ≤ n) : readAt w size (.slice oa k cap) k (xs.take (k * size)) := by
  refine ⟨by rw [List.length_take, h.1]; exact Nat.min_eq_left (Nat.mul_le_mul_right _ hk), ?_⟩
  by_cases h0 : k = 0
  · subst h0
    refine .inl ⟨rfl, oa, cap, rfl, fun he => ?_⟩
    subst he
    rcases h.2 with ⟨_, oa, c, hv, hc⟩ | ⟨g, off, c, hv, _⟩
    · simp only [Value.slice.injEq] at hv
      rw [hv.2.2]; exact hc hv.1.symm
    · cases hv
  rcases h.2 with ⟨h1, _⟩ | ⟨g, off, c, hv, hn0, hg, hn, hc⟩
  · omega
  · simp only [Value.slice.injEq] at hv
    obtain ⟨rfl, -, rfl⟩ := hv
    refine .inr ⟨g, off, cap, rfl, by omega, hg, by omega, fun j u hu => ?_⟩
    rw [List.getElem?_take] at hu
    split at hu
    · exact hc j u hu
    · cases hu
theorem add_zero_map (oa : Option Addr) : oa.map (fun x => x.add 0) = oa := by
  cases oa with
  | none => rfl
  | some a => simp [Addr.add]
theorem readAt.map0 {oa : Option Addr} {cap : Nat} (h : readAt w size (.slice oa n cap) n xs) : oa.map (fun x => x.add 0) = oa ∧ n ≤ cap := ⟨add_zero_map oa, h.cap⟩
theorem readAt.tail {g off cap m : Nat} (h : readAt w size (.slice (some ⟨g, off, none⟩) (m + 1) cap) (m + 1) xs) : readAt w size (.slice (if cap = 1 then some ⟨g, off, none⟩ else (some (⟨g, off, none⟩ : Addr)).map (·.add (1 * size))) m (cap - 1)) m (xs.drop size) := by
  refine ⟨by rw [List.length_drop, h.1, Nat.add_mul]; omega, ?_⟩
  by_cases hm0 : m = 0
  · subst hm0
    refine .inl ⟨rfl, _, _, rfl, fun he => ?_⟩
    split at he <;> cases he
  rcases h.2 with ⟨h0, _⟩ | ⟨g', o', c, hv, _, hg, hn, hc⟩
  · omega
  · simp only [Value.slice.injEq, Option.some.injEq, Addr.mk.injEq] at hv
    obtain ⟨⟨rfl, rfl, -⟩, -, rfl⟩ := hv
    rw [if_neg (show ¬ cap = 1 by omega)]
    refine .inr ⟨g, off + size, cap - 1, by simp [Go.WideShapes.add_plain], by omega, hg, by omega, fun j u hu => ?_⟩
    rw [List.getElem?_drop] at hu
    have := hc (size + j) u hu
    rwa [← Nat.add_assoc] at this
theorem Src.of_read {P : Program} {u e : TypeId} (hu : P.underlying u = some (.slice e)) (h : readAt w size v n xs) (h1 : ∀ v ∈ xs, v.oneCell' = true) : Src P w size u v n xs := by
  rcases h.2 with ⟨rfl, oa, cap, rfl, _⟩ | ⟨g, off, c, rfl, _⟩
  · have hx : xs = [] := List.eq_nil_of_length_eq_zero (by simpa using h.1)
    subst hx
    cases oa with
    | none => exact Src.none hu _
    | some a => exact Src.slice hu a 0 cap [] (by simp) (fun j u hj => by simp at hj) h1
  · exact Src.slice hu _ n c xs h.1 (fun j u hj => h.cells rfl j u hj) h1
end
end Go.Proofs.YtlgcoaeddeiegaaGreat
/- Disk: what the disk is, in plain words: files by rising names, fates, steps; what each call makes of it. -/
namespace Go.Proofs.YtlgcoaeddeiegaaGreat
open Go Go.RowKit

structure F0 where
  name : List UInt8
  bytes : List UInt8
  lasts : Nat
  there : Bool
  named : Bool
deriving DecidableEq
structure Dk where
  files : List F0
  fates : List (Int × Int)
  steps : Int

def okByte (c : UInt8) : Bool := (decide (97 ≤ c.toNat) && decide (c.toNat ≤ 122)) || (decide (48 ≤ c.toNat) && decide (c.toNat ≤ 57)) || c.toNat == 46 || c.toNat == 45
def nameOk (s : List UInt8) : Bool := s.all okByte && decide (1 ≤ s.length) && decide (s.length ≤ 32)
def Dk.at (d : Dk) (s : List UInt8) : Option F0 := d.files.find? (fun f => f.name == s)
def Dk.find (d : Dk) (s : List UInt8) : Option F0 := (d.at s).filter (·.there)
def Dk.fate (d : Dk) : Int × Nat :=
  match d.fates with
  | [] => (0, 0)
  | (k, n) :: _ => if k = 1 then (5, n.toNat) else if k = 2 then (6, n.toNat) else (0, n.toNat)
def Dk.next (d : Dk) : Dk := { d with fates := d.fates.tail, steps := wrap64 (d.steps + 1) }
def insF (f : F0) : List F0 → List F0
  | [] => [f]
  | g :: r => if g.name < f.name then g :: insF f r else f :: g :: r
def Dk.turn (d : Dk) (s : List UInt8) (t : F0 → F0) : Dk := { d with files := d.files.map fun f => if f.name = s then t f else f }
def Dk.create (d : Dk) (s : List UInt8) : Int × Dk :=
  if nameOk s = false then (2, d)
  else if (d.at s).isSome then (170, d)
  else if 4096 ≤ d.files.length then (6, d)
  else if d.fate.1 ≠ 0 then (d.fate.1, d.next)
  else (0, { d.next with files := insF ⟨s, [], 0, true, false⟩ d.files })
def Dk.append (d : Dk) (s b : List UInt8) : Int × Dk :=
  if nameOk s = false then (2, d)
  else match d.find s with
    | none => (171, d)
    | some f => if 16777216 < b.length + f.bytes.length then (6, d)
      else (d.fate.1, d.next.turn s fun f => { f with bytes := f.bytes ++ (if d.fate.1 = 0 then b else b.take d.fate.2) })
def Dk.sync (d : Dk) (s : List UInt8) : Int × Dk :=
  if nameOk s = false then (2, d)
  else match d.find s with
    | none => (171, d)
    | some _ => (d.fate.1, d.next.turn s fun f => { f with lasts := if d.fate.1 = 0 then f.bytes.length else f.lasts + min (f.bytes.length - f.lasts) d.fate.2 })
theorem mem_insF (f g : F0) : ∀ l : List F0, g ∈ insF f l ↔ g = f ∨ g ∈ l
  | [] => by simp [insF]
  | h :: r => by
    unfold insF
    split
    · simp only [List.mem_cons, mem_insF f g r]
      constructor
      · rintro (h | h | h) <;> simp [h]
      · rintro (h | h | h) <;> simp [h]
    · simp
theorem lt_of_not_lt_ne {a b : List UInt8} (h : ¬ b < a) (hne : b ≠ a) : a < b := by
  refine Classical.byContradiction fun hn => hne ?_
  exact List.le_antisymm (List.not_lt.1 hn) (List.not_lt.1 h)
theorem insF_sorted (f : F0) : ∀ l : List F0, (l.map (·.name)).Pairwise (· < ·) → (∀ g ∈ l, g.name ≠ f.name) → ((insF f l).map (·.name)).Pairwise (· < ·)
  | [], _, _ => by simp [insF]
  | g :: r, hs, hne => by
    rw [List.map_cons, List.pairwise_cons] at hs
    unfold insF
    split
    · rename_i hlt
      rw [List.map_cons, List.pairwise_cons]
      refine ⟨fun y hy => ?_, insF_sorted f r hs.2 (fun g hg => hne g (List.mem_cons_of_mem _ hg))⟩
      obtain ⟨z, hz, rfl⟩ := List.mem_map.1 hy
      rcases (mem_insF f z r).1 hz with rfl | hz
      · exact hlt
      · exact hs.1 _ (List.mem_map_of_mem hz)
    · rename_i hlt
      have hfg : f.name < g.name := lt_of_not_lt_ne hlt (hne g (by simp))
      rw [List.map_cons, List.map_cons, List.pairwise_cons, List.pairwise_cons]
      refine ⟨fun y hy => ?_, hs.1, hs.2⟩
      rcases List.mem_cons.1 hy with rfl | hy
      · exact hfg
      · exact List.lt_trans hfg (hs.1 y hy)
theorem insF_length (f : F0) : ∀ l : List F0, (insF f l).length = l.length + 1
  | [] => rfl
  | g :: r => by
    unfold insF
    split
    · simp [insF_length f r]
    · rfl
end Go.Proofs.YtlgcoaeddeiegaaGreat
/- Disk: how a disk lies in memory: its struct, its map, its files, each in blocks of its own. -/
namespace Go.Proofs.YtlgcoaeddeiegaaGreat
open Go Go.Maps Go.RowKit

structure Fl where
  f : F0
  blk : Nat
  bv : Value
def Fl.blocks (x : Fl) : List Nat := x.blk :: x.bv.ownBlock.toList
structure FlAt (w : World) (x : Fl) : Prop where
  cells : w.heap[x.blk]? = some (.cells #[x.bv, .int .i64 x.f.lasts, .bool x.f.there, .bool x.f.named] 179 (0, 0))
  row : rowAt w 5 1 x.bv x.f.bytes.length (byteCells x.f.bytes)
  lasts : x.f.lasts ≤ x.f.bytes.length
  size : x.f.bytes.length ≤ 16777216
theorem FlAt.kept {w w' : World} {x : Fl} (h : FlAt w x) (hk : ∀ k ∈ x.blocks, w'.heap[k]? = w.heap[k]?) : FlAt w' x :=
  ⟨(hk _ (by simp [Fl.blocks])).trans h.cells, h.row.kept (fun k hk' => hk k (by simp [Fl.blocks, hk'])), h.lasts, h.size⟩
def fateCells (l : List (Int × Int)) : List Value := l.flatMap fun x => [.int .i64 x.1, .int .i64 x.2]
def diskBlocks (q mb : Nat) (fv : Value) (L : List Fl) : List Nat := q :: mb :: (fv.ownBlock.toList ++ L.flatMap Fl.blocks)
structure DiskIs (w : World) (S : Nat → Prop) (q mb : Nat) (fv : Value) (L : List Fl) (d : Dk) : Prop where
  files : L.map (·.f) = d.files
  head : w.heap[q]? = some (.cells #[.map (some mb), fv, .int .i64 d.steps] 120 (0, 0))
  fates : rowAt w 98 2 fv d.fates.length (fateCells d.fates)
  map : ∃ D, w.ownsMap Tryz.prog 9 ptrElem mb L.length D ∧ Dic D (L.map fun x => (x.f.name, x.blk))
  each : ∀ x ∈ L, FlAt w x
  apart : (diskBlocks q mb fv L).Nodup
  foot : ∀ k ∈ diskBlocks q mb fv L, S k
  low : ∀ k, S k → k < w.heap.size
  sorted : (d.files.map (·.name)).Pairwise (· < ·)
  names : ∀ f ∈ d.files, nameOk f.name = true
  few : d.files.length ≤ 4096
def DiskAt (w : World) (S : Nat → Prop) (q : Nat) (d : Dk) : Prop := ∃ mb fv L, DiskIs w S q mb fv L d

theorem ownsMap_kept {w w' : World} {k : TypeId} {b n : Nat} {D : DataW Unit} (h : w.ownsMap Tryz.prog k ptrElem b n D) (hb : w'.heap[b]? = w.heap[b]?) : w'.ownsMap Tryz.prog k ptrElem b n D := by
  obtain ⟨es, clock, he, r⟩ := h
  exact ⟨es, clock, hb.trans he, r⟩
theorem ownsMap_tight {w : World} {k : TypeId} {b n : Nat} {D : DataW Unit} (h : w.ownsMap Tryz.prog k ptrElem b n D) : w.ownsMap Tryz.prog k ptrElem b (Maps.size D) D := by
  obtain ⟨es, clock, he, F, _, rfl⟩ := h
  exact ⟨es, clock, he, F, by simp [Maps.size, length_sorted], rfl⟩
theorem Dic.perm {D : DataW Unit} {L : List (List UInt8 × Nat)} {w : World} {b n : Nat} (h : Dic D L) (hown : w.ownsMap Tryz.prog 9 ptrElem b n D) (hnd : (L.map (·.1)).Nodup) : (L.map (·.1)).Perm (strKeys D) := by
  obtain ⟨es, hD, hpw, _⟩ := hown.entries (string_keyed Tryz.underlying9)
  obtain ⟨es', hD', hko⟩ := hown.keysOf
  obtain rfl : es = es' := by rw [hD] at hD'; simpa using hD'
  subst hD
  refine perm_strKeys hpw (fun p hp => by obtain ⟨v, hv⟩ := hko p hp; obtain ⟨x, _, hx, _⟩ := Maps.keyOf_str Tryz.underlying9 hv; exact ⟨x, hx⟩) hnd (fun x => ?_)
  rw [h.has x, List.mem_map]
theorem size_strKeys {D : DataW Unit} (h : IsMap D) : (strKeys D).length = Maps.size D := by
  obtain ⟨es, rfl⟩ := h
  simp [strKeys, Maps.size]
theorem Dic.size {D : DataW Unit} {L : List (List UInt8 × Nat)} {w : World} {b n : Nat} (h : Dic D L) (hown : w.ownsMap Tryz.prog 9 ptrElem b n D) (hnd : (L.map (·.1)).Nodup) : Maps.size D = L.length := by
  rw [← size_strKeys h.isMap, ← (h.perm hown hnd).length_eq, List.length_map]

section
variable {w : World} {S : Nat → Prop} {q mb : Nat} {fv : Value} {L : List Fl} {d : Dk}
theorem DiskIs.kept {w' : World} (h : DiskIs w S q mb fv L d) (hk : ∀ k, S k → w'.heap[k]? = w.heap[k]?) (hsz : w.heap.size ≤ w'.heap.size) : DiskIs w' S q mb fv L d where
  files := h.files
  head := (hk q (h.foot q (by simp [diskBlocks]))).trans h.head
  fates := h.fates.kept (fun k hk' => hk k (h.foot k (by simp [diskBlocks, hk'])))
  map := by
    obtain ⟨D, ho, hd⟩ := h.map
    exact ⟨D, ownsMap_kept ho (hk mb (h.foot mb (by simp [diskBlocks]))), hd⟩
  each := fun x hx => (h.each x hx).kept (fun k hk' => hk k (h.foot k (by simp only [diskBlocks, List.mem_cons, List.mem_append, List.mem_flatMap]; exact .inr (.inr (.inr ⟨x, hx, hk'⟩)))))
  apart := h.apart
  foot := h.foot
  low := fun k hk' => Nat.lt_of_lt_of_le (h.low k hk') hsz
  sorted := h.sorted
  names := h.names
  few := h.few
theorem DiskIs.only {T : Nat → Prop} {w' : World} (h : DiskIs w S q mb fv L d) (ho : Only T w w') (hT : ∀ k, S k → ¬ T k) : DiskIs w' S q mb fv L d :=
  h.kept (fun k hk => ho.block k (h.low k hk) (hT k hk)) ho.size
theorem DiskIs.below {w' : World} (h : DiskIs w S q mb fv L d) (hb : Below w.heap.size w w') : DiskIs w' S q mb fv L d :=
  h.kept (fun k hk => hb.block k (h.low k hk)) hb.size
theorem DiskIs.wider {S' : Nat → Prop} (h : DiskIs w S q mb fv L d) (h1 : ∀ k, S k → S' k) (h2 : ∀ k, S' k → k < w.heap.size) : DiskIs w S' q mb fv L d :=
  { h with foot := fun k hk => h1 k (h.foot k hk), low := h2 }
theorem DiskIs.nodup (h : DiskIs w S q mb fv L d) : (L.map (·.f.name)).Nodup := by
  have := h.sorted
  rw [← h.files, List.map_map] at this
  exact this.imp (fun {a b} hab he => by rw [he] at hab; exact List.lt_irrefl _ hab)
theorem DiskIs.look (h : DiskIs w S q mb fv L d) : ∃ D, w.ownsMap Tryz.prog 9 ptrElem mb L.length D ∧ Maps.size D = L.length ∧ Dic D (L.map fun x => (x.f.name, x.blk)) := by
  obtain ⟨D, ho, hd⟩ := h.map
  refine ⟨D, ho, ?_, hd⟩
  rw [hd.size ho (by rw [List.map_map]; exact h.nodup), List.length_map]
end
theorem blocks_perm (q mb : Nat) (fv : Value) (A : List Fl) (x : Fl) (B : List Fl) : (diskBlocks q mb fv (A ++ x :: B)).Perm (x.blocks ++ diskBlocks q mb fv (A ++ B)) := by
  refine List.perm_iff_count.2 fun k => ?_
  simp only [diskBlocks, List.flatMap_append, List.flatMap_cons, List.count_cons, List.count_append]
  omega
theorem not_mem_of_nodup_append {l r : List Nat} (h : (l ++ r).Nodup) {k : Nat} (hk : k ∈ l) : k ∉ r := fun hr => (List.nodup_append.1 h).2.2 k hk k hr rfl
section
variable {w : World} {S : Nat → Prop} {q mb : Nat} {fv : Value} {L : List Fl} {d : Dk}
theorem DiskIs.head_turn {w' : World} {fv' : Value} {fs' : List (Int × Int)} {st' : Int} (h : DiskIs w S q mb fv L d) (ho : Only (fun k => k = q) w w')
    (hq : w'.heap[q]? = some (.cells #[.map (some mb), fv', .int .i64 st'] 120 (0, 0))) (hob : ∀ k, fv'.ownBlock = some k → fv.ownBlock = some k)
    (hr : rowAt w 98 2 fv' fs'.length (fateCells fs')) : DiskIs w' S q mb fv' L { d with fates := fs', steps := st' } := by
  have hne : ∀ k, k ∈ (mb :: (fv.ownBlock.toList ++ L.flatMap Fl.blocks)) → w'.heap[k]? = w.heap[k]? := fun k hk =>
    ho.block k (h.low k (h.foot k (List.mem_cons_of_mem _ hk))) (fun e => (List.nodup_cons.1 h.apart).1 (e ▸ hk))
  have hsub : fv'.ownBlock.toList.Sublist fv.ownBlock.toList := by
    cases hv : fv'.ownBlock with
    | none => simp
    | some k => rw [hob k hv]; simp
  have hall : (diskBlocks q mb fv' L).Sublist (diskBlocks q mb fv L) := ((hsub.append_right _).cons_cons mb).cons_cons q
  exact {
    files := h.files
    head := hq
    fates := hr.kept (fun k hk => hne k (by simp [hob k hk]))
    map := by
      obtain ⟨D, hown, hd⟩ := h.map
      exact ⟨D, ownsMap_kept hown (hne mb (by simp)), hd⟩
    each := fun x hx => (h.each x hx).kept (fun k hk => hne k (by simp only [List.mem_cons, List.mem_append, List.mem_flatMap]; exact .inr (.inr ⟨x, hx, hk⟩)))
    apart := h.apart.sublist hall
    foot := fun k hk => h.foot k (hall.subset hk)
    low := fun k hk => Nat.lt_of_lt_of_le (h.low k hk) ho.size
    sorted := h.sorted
    names := h.names
    few := h.few }
theorem DiskIs.file_turn {w' : World} {A B : List Fl} {x x' : Fl} (h : DiskIs w S q mb fv (A ++ x :: B) d) (hb : x'.blk = x.blk) (hn : x'.f.name = x.f.name) (ho : Only (fun k => k ∈ x.blocks) w w') (hx : FlAt w' x')
    (hv : ∀ k, x'.bv.ownBlock = some k → x.bv.ownBlock = some k ∨ (w.heap.size ≤ k ∧ k < w'.heap.size)) :
    DiskIs w' (fun k => S k ∨ (w.heap.size ≤ k ∧ k < w'.heap.size)) q mb fv (A ++ x' :: B) { d with files := A.map (·.f) ++ x'.f :: B.map (·.f) } := by
  have hp := (blocks_perm q mb fv A x B)
  have hnd := hp.nodup_iff.1 h.apart
  have hlow : ∀ k ∈ x.blocks ++ diskBlocks q mb fv (A ++ B), S k := fun k hk => h.foot k (hp.mem_iff.2 hk)
  have hrest : ∀ k ∈ diskBlocks q mb fv (A ++ B), w'.heap[k]? = w.heap[k]? := fun k hk =>
    ho.block k (h.low k (hlow k (List.mem_append_right _ hk))) (fun hx' => not_mem_of_nodup_append hnd hx' hk)
  have hxlt : ∀ k ∈ x.blocks, k < w.heap.size := fun k hk => h.low k (hlow k (List.mem_append_left _ hk))
  have hx'b : ∀ k ∈ x'.blocks, k ∈ x.blocks ∨ (w.heap.size ≤ k ∧ k < w'.heap.size) := fun k hk => by
    simp only [Fl.blocks, List.mem_cons, Option.mem_toList] at hk ⊢
    rcases hk with rfl | hk
    · exact .inl (.inl hb)
    · rcases hv k hk with h1 | h1
      · exact .inl (.inr h1)
      · exact .inr h1
  have hp' := (blocks_perm q mb fv A x' B)
  have hfiles : d.files = A.map (·.f) ++ x.f :: B.map (·.f) := by rw [← h.files]; simp
  have hnames : (A.map (·.f) ++ x'.f :: B.map (·.f)).map (·.name) = d.files.map (·.name) := by rw [hfiles]; simp [hn]
  exact {
    files := by simp
    head := (hrest q (by simp [diskBlocks])).trans h.head
    fates := h.fates.kept (fun k hk => hrest k (by simp [diskBlocks, hk]))
    map := by
      obtain ⟨D, hown, hd⟩ := h.map
      refine ⟨D, ?_, ?_⟩
      · have := ownsMap_kept hown (hrest mb (by simp [diskBlocks]))
        simpa using this
      · have e : ((A ++ x' :: B).map fun x => (x.f.name, x.blk)) = ((A ++ x :: B).map fun x => (x.f.name, x.blk)) := by simp [hn, hb]
        rw [e]
        exact hd
    each := fun y hy => by
      rcases List.mem_append.1 hy with hy | hy
      · exact (h.each y (by simp [hy])).kept (fun k hk => hrest k (by simp only [diskBlocks, List.mem_cons, List.mem_append, List.mem_flatMap]; exact .inr (.inr (.inr ⟨y, .inl hy, hk⟩))))
      · rcases List.mem_cons.1 hy with rfl | hy
        · exact hx
        · exact (h.each y (by simp [hy])).kept (fun k hk => hrest k (by simp only [diskBlocks, List.mem_cons, List.mem_append, List.mem_flatMap]; exact .inr (.inr (.inr ⟨y, .inr hy, hk⟩))))
    apart := by
      refine hp'.nodup_iff.2 (List.nodup_append.2 ⟨?_, (List.nodup_append.1 hnd).2.1, fun a ha b hb' e => ?_⟩)
      · have hnx := (List.nodup_append.1 hnd).1
        cases hv' : x'.bv.ownBlock with
        | none => simp [Fl.blocks, hv']
        | some k =>
          simp only [Fl.blocks, hv', Option.toList_some, List.nodup_cons, List.mem_singleton, List.not_mem_nil, not_false_eq_true, List.nodup_nil, and_self, and_true]
          intro he
          rcases hv k hv' with h1 | h1
          · simp only [Fl.blocks, h1, Option.toList_some, List.nodup_cons, List.mem_singleton] at hnx
            exact hnx.1 (by rw [← hb]; exact he)
          · have := hxlt x.blk (by simp [Fl.blocks])
            omega
      · subst e
        rcases hx'b a ha with h1 | h1
        · exact not_mem_of_nodup_append hnd h1 hb'
        · have := h.low a (hlow a (List.mem_append_right _ hb'))
          omega
    foot := fun k hk => by
      rcases List.mem_append.1 (hp'.mem_iff.1 hk) with hk | hk
      · rcases hx'b k hk with h1 | h1
        · exact .inl (hlow k (List.mem_append_left _ h1))
        · exact .inr h1
      · exact .inl (hlow k (List.mem_append_right _ hk))
    low := fun k hk => by
      rcases hk with hk | hk
      · exact Nat.lt_of_lt_of_le (h.low k hk) ho.size
      · exact hk.2
    sorted := by
      show ((A.map (·.f) ++ x'.f :: B.map (·.f)).map (·.name)).Pairwise (· < ·)
      rw [hnames]; exact h.sorted
    names := fun f hf => by
      have hf' : f ∈ A.map (·.f) ++ x'.f :: B.map (·.f) := hf
      have : f.name ∈ d.files.map (·.name) := by rw [← hnames]; exact List.mem_map_of_mem hf'
      obtain ⟨g, hg, he⟩ := List.mem_map.1 this
      rw [← he]; exact h.names g hg
    few := by
      have : (A.map (·.f) ++ x'.f :: B.map (·.f)).length = d.files.length := by rw [hfiles]; simp
      show (A.map (·.f) ++ x'.f :: B.map (·.f)).length ≤ 4096
      rw [this]; exact h.few }
end
theorem insF_split (f : F0) : ∀ L : List Fl, ∃ A B, L = A ++ B ∧ insF f (L.map (·.f)) = A.map (·.f) ++ f :: B.map (·.f)
  | [] => ⟨[], [], rfl, rfl⟩
  | g :: r => by
    rw [List.map_cons]
    unfold insF
    split
    · obtain ⟨A, B, hL, hi⟩ := insF_split f r
      exact ⟨g :: A, B, by rw [hL]; rfl, by rw [hi]; rfl⟩
    · exact ⟨[], g :: r, rfl, rfl⟩
section
variable {w : World} {S : Nat → Prop} {q mb : Nat} {fv : Value} {d : Dk}
theorem DiskIs.file_add {w' : World} {A B : List Fl} {x' : Fl} {n' : Nat} {D' : DataW Unit} {fs : List F0} (h : DiskIs w S q mb fv (A ++ B) d) (ho : Only (fun k => k = mb) w w') (hx : FlAt w' x')
    (hm : w'.ownsMap Tryz.prog 9 ptrElem mb n' D') (hd : Dic D' ((A ++ x' :: B).map fun x => (x.f.name, x.blk))) (hnew : ∀ k ∈ x'.blocks, w.heap.size ≤ k ∧ k < w'.heap.size) (hnd : x'.blocks.Nodup)
    (hfs : fs = A.map (·.f) ++ x'.f :: B.map (·.f)) (hs : (fs.map (·.name)).Pairwise (· < ·)) (hnm : nameOk x'.f.name = true) (hfew : d.files.length < 4096) :
    DiskIs w' (fun k => S k ∨ (w.heap.size ≤ k ∧ k < w'.heap.size)) q mb fv (A ++ x' :: B) { d with files := fs } := by
  have hne : ∀ k ∈ diskBlocks q mb fv (A ++ B), k ≠ mb → w'.heap[k]? = w.heap[k]? := fun k hk hk' => ho.block k (h.low k (h.foot k hk)) hk'
  have hap := h.apart
  simp only [diskBlocks, List.nodup_cons, List.mem_cons, not_or] at hap
  have hmb : ∀ k, k ∈ fv.ownBlock.toList ++ (A ++ B).flatMap Fl.blocks → k ≠ mb := fun k hk e => hap.2.1 (e ▸ hk)
  have hp' := blocks_perm q mb fv A x' B
  have hfl : d.files = A.map (·.f) ++ B.map (·.f) := by rw [← h.files]; simp
  have hold : ∀ y ∈ A ++ B, FlAt w' y := fun y hy => (h.each y hy).kept (fun k hk => by
    have h1 : k ∈ fv.ownBlock.toList ++ (A ++ B).flatMap Fl.blocks := List.mem_append_right _ (List.mem_flatMap.2 ⟨y, hy, hk⟩)
    exact hne k (by simp only [diskBlocks, List.mem_cons]; exact .inr (.inr h1)) (hmb k h1))
  exact {
    files := by rw [hfs]; simp
    head := (hne q (by simp [diskBlocks]) (fun e => hap.1.1 e)).trans h.head
    fates := h.fates.kept (fun k hk => hne k (by simp [diskBlocks, hk]) (hmb k (by simp [hk])))
    map := by
      refine ⟨D', ?_, hd⟩
      have h1 := ownsMap_tight hm
      rw [hd.size hm (by
        rw [List.map_map]
        have : ((A ++ x' :: B).map (·.f.name)).Pairwise (· < ·) := by rw [hfs] at hs; simpa [Function.comp_def] using hs
        exact this.imp (fun {a b} hab he => by rw [he] at hab; exact List.lt_irrefl _ hab))] at h1
      simpa using h1
    each := fun y hy => by
      rcases List.mem_append.1 hy with hy | hy
      · exact hold y (by simp [hy])
      · rcases List.mem_cons.1 hy with rfl | hy
        · exact hx
        · exact hold y (by simp [hy])
    apart := hp'.nodup_iff.2 (List.nodup_append.2 ⟨hnd, h.apart, fun a ha b hb e => by
      have h1 := h.low b (h.foot b hb)
      have h2 := (hnew a ha).1
      omega⟩)
    foot := fun k hk => by
      rcases List.mem_append.1 (hp'.mem_iff.1 hk) with hk | hk
      · exact .inr (hnew k hk)
      · exact .inl (h.foot k hk)
    low := fun k hk => by
      rcases hk with hk | hk
      · exact Nat.lt_of_lt_of_le (h.low k hk) ho.size
      · exact hk.2
    sorted := hs
    names := fun f hf => by
      have hf' : f ∈ A.map (·.f) ++ x'.f :: B.map (·.f) := by rw [← hfs]; exact hf
      rcases List.mem_append.1 hf' with h1 | h1
      · exact h.names f (by rw [hfl]; simp [h1])
      · rcases List.mem_cons.1 h1 with rfl | h1
        · exact hnm
        · exact h.names f (by rw [hfl]; simp [h1])
    few := by
      show fs.length ≤ 4096
      rw [hfl] at hfew
      rw [hfs]
      simp at hfew ⊢
      omega }
end
end Go.Proofs.YtlgcoaeddeiegaaGreat
/- Disk: is it a name. -/
namespace Go.Proofs.YtlgcoaeddeiegaaGreat
open Go.RowKit

def AllOk (l : List UInt8) : Prop := l.all okByte = true
theorem take_snoc (s : ByteArray) (k : Nat) (h : k < s.size) : s.data.toList.take (k + 1) = s.data.toList.take k ++ [s[k]] := by
  rw [List.take_succ_eq_append_getElem (by simpa using h)]; rfl
theorem AllOk.snoc {s : ByteArray} {k : Nat} (h : k < s.size) (ha : AllOk (s.data.toList.take k)) (hc : okByte s[k] = true) : AllOk (s.data.toList.take (k + 1)) := by
  unfold AllOk at *
  rw [take_snoc s k h, List.all_append, ha]
  simp [hc]
theorem nameOk_not {s : ByteArray} {k : Nat} (h : k < s.size) (hc : okByte s[k] = false) : nameOk s.data.toList = false := by
  have h1 : s.data.toList.all okByte = false := by
    rw [← List.take_append_drop (k + 1) s.data.toList, List.all_append, take_snoc s k h, List.all_append]
    simp [hc]
  simp [nameOk, h1]
theorem ret_bool {a b : Bool} (h : a = b) : Ending.returned (.bool a) = .returned (.bool b) := by rw [h]
theorem okByte_iff (x : UInt8) (c : Nat) (h : x.toNat = c) : okByte x = true ↔ (97 ≤ c ∧ c ≤ 122) ∨ (48 ≤ c ∧ c ≤ 57) ∨ c = 46 ∨ c = 45 := by
  subst h
  simp [okByte, Bool.or_eq_true, or_assoc]

set_option maxHeartbeats 400000 in
theorem named_any (s : ByteArray) (w : World) (hs : s.size ≤ maxLen) :
    Calls Tryz.prog 189 #[.string s] w fun e w' => e = .returned (.bool (nameOk s.data.toList)) ∧ w' = w := by
  unfold maxLen at hs
  go_enter Tryz.func189, Tryz.ntmps189
  go_wp2
  go_loop [7] (fun i => ∃ k : Nat, k ≤ s.size ∧ i = .int .i64 k ∧ AllOk (s.data.toList.take k)) (fun i => s.size - (intOf i).toNat)
  case atStart => exact ⟨0, Nat.zero_le _, rfl, by simp [AllOk]⟩
  case round =>
    obtain ⟨k, hk, rfl, hlow⟩ := hrel
    by_cases hlt : k < s.size
    · obtain ⟨c, hcc⟩ : ∃ c : Nat, (s[k]'hlt).toNat = c := ⟨_, rfl⟩
      have HR : Hid ((97 ≤ c ∧ c ≤ 122) ∨ (48 ≤ c ∧ c ≤ 57) ∨ c = 46 ∨ c = 45 → AllOk (s.data.toList.take (k + 1))) := Lib.hid fun h => AllOk.snoc hlt hlow ((okByte_iff _ c hcc).2 h)
      have HF : Hid (¬ ((97 ≤ c ∧ c ≤ 122) ∨ (48 ≤ c ∧ c ≤ 57) ∨ c = 46 ∨ c = 45) → nameOk s.data.toList = false) := Lib.hid fun h => nameOk_not hlt (by
        cases hb : okByte s[k] with
        | false => rfl
        | true => exact absurd ((okByte_iff _ c hcc).1 hb) h)
      clear hlow
      by_cases h0 : 97 ≤ c ∧ c ≤ 122
      · skip
        have e1 : decide ((c : Int) < 97) = false := by simp; omega
        have e2 : decide ((122 : Int) < (c : Int)) = false := by simp; omega
        have HO : Hid (AllOk (s.data.toList.take (k + 1))) := Lib.hid (HR.out (by omega))
        clear HR HF
        go_wp2
        go_round
        case rel => exact ⟨k + 1, by omega, by go_num, HO.out⟩
        case measure => simp [intOf]; omega
      by_cases h1 : 48 ≤ c ∧ c ≤ 57
      · skip
        have e1 : decide ((c : Int) < 97) = true := by simp; omega
        have e3 : decide ((c : Int) < 48) = false := by simp; omega
        have e4 : decide ((57 : Int) < (c : Int)) = false := by simp; omega
        have HO : Hid (AllOk (s.data.toList.take (k + 1))) := Lib.hid (HR.out (by omega))
        clear HR HF
        go_wp2
        go_round
        case rel => exact ⟨k + 1, by omega, by go_num, HO.out⟩
        case measure => simp [intOf]; omega
      by_cases h2 : c = 46
      · skip
        have e1 : decide ((c : Int) < 97) = true := by simp; omega
        have e3 : decide ((c : Int) < 48) = true := by simp; omega
        have e5 : ((c : Int) != 46) = false := by simp; omega
        have HO : Hid (AllOk (s.data.toList.take (k + 1))) := Lib.hid (HR.out (by omega))
        clear HR HF
        go_wp2
        go_round
        case rel => exact ⟨k + 1, by omega, by go_num, HO.out⟩
        case measure => simp [intOf]; omega
      by_cases h3 : c = 45
      · skip
        have e1 : decide ((c : Int) < 97) = true := by simp; omega
        have e3 : decide ((c : Int) < 48) = true := by simp; omega
        have e5 : ((c : Int) != 46) = true := by simp; omega
        have e6 : ((c : Int) != 45) = false := by simp; omega
        have HO : Hid (AllOk (s.data.toList.take (k + 1))) := Lib.hid (HR.out (by omega))
        clear HR HF
        go_wp2
        go_round
        case rel => exact ⟨k + 1, by omega, by go_num, HO.out⟩
        case measure => simp [intOf]; omega
      by_cases h4 : 122 < c
      · skip
        have e1 : decide ((c : Int) < 97) = false := by simp; omega
        have e2 : decide ((122 : Int) < (c : Int)) = true := by simp; omega
        have e3 : decide ((c : Int) < 48) = false := by simp; omega
        have e4 : decide ((57 : Int) < (c : Int)) = true := by simp; omega
        have e5 : ((c : Int) != 46) = true := by simp; omega
        have e6 : ((c : Int) != 45) = true := by simp; omega
        have HO : Hid (nameOk s.data.toList = false) := Lib.hid (HF.out (by omega))
        clear HR HF
        go_wp2
        go_ret
        exact ⟨ret_bool HO.out.symm, rfl⟩
      by_cases h5 : 57 < c
      · skip
        have e1 : decide ((c : Int) < 97) = true := by simp; omega
        have e3 : decide ((c : Int) < 48) = false := by simp; omega
        have e4 : decide ((57 : Int) < (c : Int)) = true := by simp; omega
        have e5 : ((c : Int) != 46) = true := by simp; omega
        have e6 : ((c : Int) != 45) = true := by simp; omega
        have HO : Hid (nameOk s.data.toList = false) := Lib.hid (HF.out (by omega))
        clear HR HF
        go_wp2
        go_ret
        exact ⟨ret_bool HO.out.symm, rfl⟩
      have hrest : c < 48 ∧ c ≠ 46 ∧ c ≠ 45 := by omega
      · skip
        have e1 : decide ((c : Int) < 97) = true := by simp; omega
        have e3 : decide ((c : Int) < 48) = true := by simp; omega
        have e5 : ((c : Int) != 46) = true := by simp; omega
        have e6 : ((c : Int) != 45) = true := by simp; omega
        have HO : Hid (nameOk s.data.toList = false) := Lib.hid (HF.out (by omega))
        clear HR HF
        go_wp2
        go_ret
        exact ⟨ret_bool HO.out.symm, rfl⟩
    · obtain rfl : k = s.size := by omega
      have hl : s.data.toList.all okByte = true := by
        have h1 : AllOk (s.data.toList.take s.size) := hlow
        rwa [AllOk, List.take_of_length_le (by simp)] at h1
      have HF : Hid (nameOk s.data.toList = (decide (1 ≤ s.size) && decide (s.size ≤ 32))) := by
        refine Lib.hid ?_
        simp [nameOk, hl]
      clear hl hlow
      by_cases h1 : 1 ≤ s.size
      · go_wp2
        go_ret
        exact ⟨ret_bool (by rw [HF.out]; simp [h1]; omega), rfl⟩
      · have hd : decide ((1 : Int) ≤ (s.size : Int)) = false := by simp; omega
        go_wp2
        go_ret
        exact ⟨ret_bool (by rw [HF.out]; simp [h1]), rfl⟩
end Go.Proofs.YtlgcoaeddeiegaaGreat
/- Disk: the next step. -/
namespace Go.Proofs.YtlgcoaeddeiegaaGreat
open Go Go.Maps Go.RowKit

theorem heap_setCell_here {w : World} {q i : Nat} {cs : Array Value} {T : TypeId} {fr : Nat × Nat} (v : Value) (h : w.heap[q]? = some (.cells cs T fr)) : (w.setCell ⟨q, i, none⟩ v).heap[q]? = some (.cells (cs.setIfInBounds i v) T fr) := by
  rw [setCell_eq_setRow w q i cs T fr v h]
  exact setRow_heap w q cs _ T fr h
theorem only_setCell (S : Nat → Prop) (w : World) (q i : Nat) (v : Value) (h : S q) : Only S w (w.setCell ⟨q, i, none⟩ v) :=
  ⟨rfl, rfl, rfl, by simp [World.setCell], fun k _ hk => Below.heap_setCell _ _ _ _ (fun e => hk (by rw [e]; exact h))⟩
theorem only_alloc (S : Nat → Prop) (w : World) (o : Obj) : Only S w (w.alloc o) := Only.of_below ((Below.refl _ _).alloc (Nat.le_refl _) _) (Nat.le_refl _) S
theorem only_drew {S : Nat → Prop} {w w' : World} (h : Only S w w') : Only S w w'.drew := ⟨h.os, h.tape, h.output, h.size, h.block⟩
theorem alloc_cells (w : World) (cs : Array Value) (T : TypeId) : (w.alloc (.cells cs T)).heap[w.heap.size]? = some (.cells cs T (0, 0)) := heap_alloc_new w _
theorem cell_of {w : World} {q i : Nat} {cs : Array Value} {T : TypeId} {fr : Nat × Nat} {v : Value} (h : w.heap[q]? = some (.cells cs T fr)) (hv : cs[i]? = some v) : w.cell? ⟨q, i, none⟩ = some v := by
  rw [cell_of_row w q i _ _ _ h, hv]
theorem free_of {w : World} {q : Nat} {cs : Array Value} {T : TypeId} (h : w.heap[q]? = some (.cells cs T (0, 0))) (i : Nat) : w.frozen? ⟨q, i, none⟩ = false := by
  simp [World.frozen?, h]
theorem rowAt.shape {w : World} {e : TypeId} {size : Nat} {v : Value} {n : Nat} {xs : List Value} (h : rowAt w e size v n xs) : ∃ oa cap, v = .slice oa n cap ∧ n ≤ cap := by
  rcases h.2 with ⟨rfl, rfl⟩ | ⟨g, off, cap, cur, fr, rfl, _, hn, _⟩
  · exact ⟨none, 0, rfl, Nat.le_refl _⟩
  · exact ⟨_, _, rfl, hn⟩
theorem rowAt.addr {w : World} {e : TypeId} {size : Nat} {oa : Option Addr} {cap n : Nat} {xs : List Value} (h : rowAt w e size (.slice oa n cap) n xs) (hn : 0 < n) : ∃ g off, oa = some ⟨g, off, none⟩ := by
  rcases h.2 with ⟨_, h0⟩ | ⟨g, off, c, cur, fr, hv, _⟩
  · omega
  · simp only [Value.slice.injEq] at hv
    exact ⟨g, off, hv.1⟩

theorem sub_own (c : Prop) [Decidable c] (g off k n cap : Nat) : (Value.slice (if c then some ⟨g, off, none⟩ else (some (⟨g, off, none⟩ : Addr)).map (·.add k)) n cap).ownBlock = some g := by
  split
  · rfl
  · simp [Value.ownBlock, Go.WideShapes.add_plain]
theorem fateCells_cons (x : Int × Int) (r : List (Int × Int)) : fateCells (x :: r) = .int .i64 x.1 :: .int .i64 x.2 :: fateCells r := rfl
theorem fateCells_length : ∀ l : List (Int × Int), (fateCells l).length = l.length * 2
  | [] => rfl
  | x :: r => by
    rw [fateCells_cons]
    simp only [List.length_cons, fateCells_length r]
    omega
theorem run_tail (g off n cap : Nat) (W : World) : (Instr.slice 37 (.slice (some ⟨g, off, none⟩) (n + 1) cap) (some (.int .i64 1)) none none).run Tryz.prog W = .ok (.slice (if cap = 1 then some ⟨g, off, none⟩ else (some (⟨g, off, none⟩ : Addr)).map (·.add (1 * 2))) n (cap - 1)) W := by
  have hs : (sizeOf 98).run Tryz.prog W = .ok 2 W := by kernel_rfl
  have he : Tryz.prog.elem 37 = 98 := by kernel_rfl
  rw [run_slice_l (P := Tryz.prog) (w := W) 37 (some ⟨g, off, none⟩) (n + 1) cap (by rw [he]; exact Tryz.underlying37) .i64 1 (by omega) (by omega), he, hs]
  simp [Result.andThen, sliced]
theorem step_end {w w3 : World} {S : Nat → Prop} {q mb : Nat} {fv fv' : Value} {L : List Fl} {d : Dk} {rest : List (Int × Int)} (h : DiskIs w S q mb fv L d) (ho : Only (fun k => k = q) w w3) (hq : w3.heap[q]? = some (.cells #[.map (some mb), fv', .int .i64 (wrap64 (d.steps + 1))] 120 (0, 0)))
    (hrest : d.fates.tail = rest) (hob : ∀ k, fv'.ownBlock = some k → fv.ownBlock = some k) (hr : rowAt w 98 2 fv' rest.length (fateCells rest)) : DiskIs w3 S q mb fv' L d.next := by
  subst hrest
  exact h.head_turn ho hq hob hr

def StepIs (w : World) (S : Nat → Prop) (q mb : Nat) (L : List Fl) (d : Dk) (e : Ending) (w' : World) : Prop :=
  ∃ (kd kp : Int) (fv' : Value), e = .returned (.tuple #[.agg #[.int .i64 kd, .int .i64 kp], .int .i64 d.fate.1]) ∧ kp.toNat = d.fate.2 ∧ DiskIs w' S q mb fv' L d.next ∧ Only (fun k => k = q) w w'
set_option maxRecDepth 100000 in
set_option maxHeartbeats 1000000 in
theorem step_b {w : World} {S : Nat → Prop} {q mb : Nat} {fv : Value} {L : List Fl} {d : Dk} (h : DiskIs w S q mb fv L d) :
    Calls Tryz.prog 135 #[.pointer (some ⟨q, 0, none⟩)] w fun e w' => StepIs w S q mb L d e w' := by
  obtain ⟨oa, cap, rfl, hnc⟩ := h.fates.shape
  obtain ⟨st, hst⟩ : ∃ st, d.steps = st := ⟨_, rfl⟩
  obtain ⟨fs, hfs⟩ : ∃ fs, d.fates = fs := ⟨_, rfl⟩
  have hqlt : q < w.heap.size := h.low q (h.foot q (by simp [diskBlocks]))
  go_enter Tryz.func135, Tryz.ntmps135
  go_upto_region 1 with fail
  obtain ⟨w1, hw1⟩ : ∃ w1 : World, w1 = w.alloc (.cells #[.int .i64 0, .int .i64 0] 98) := ⟨_, rfl⟩
  have hr1 : w1.heap[w.heap.size]? = some (.cells #[.int .i64 0, .int .i64 0] 98 (0, 0)) := by rw [hw1]; exact alloc_cells _ _ _
  have hq1 : w1.heap[q]? = some (.cells #[.map (some mb), .slice oa fs.length cap, .int .i64 st] 120 (0, 0)) := by
    rw [hw1, ← hst, ← hfs]
    exact (Below.heap_alloc _ _ q hqlt).trans h.head
  have ho1 : Only (fun k => k = q) w w1 := by rw [hw1]; exact only_alloc _ _ _
  have hrq : w.heap.size ≠ q := by omega
  rw [← hw1]
  clear hw1
  obtain ⟨r, hr⟩ : ∃ r, r = w.heap.size := ⟨_, rfl⟩
  have hrw : w.heap.size ≤ r := by omega
  rw [← hr] at hr1 hrq ⊢
  clear hr
  have H := Lib.hid h
  have HO1 := Lib.hid ho1
  clear h ho1
  have c2 : w1.cell? ⟨q, 2, none⟩ = some (.int .i64 st) := cell_of hq1 rfl
  have z2 : w1.frozen? ⟨q, 2, none⟩ = false := free_of hq1 _
  go_upto_region 2 with fail
  obtain ⟨st', hst'⟩ : ∃ st', wrap64 (st + 1) = st' := ⟨_, rfl⟩
  rw [hst']
  obtain ⟨w2, hw2⟩ : ∃ w2 : World, w2 = w1.setCell ⟨q, 2, none⟩ (.int .i64 st') := ⟨_, rfl⟩
  have hq2 : w2.heap[q]? = some (.cells #[.map (some mb), .slice oa fs.length cap, .int .i64 st'] 120 (0, 0)) := by rw [hw2]; exact heap_setCell_here _ hq1
  have hr2 : w2.heap[r]? = some (.cells #[.int .i64 0, .int .i64 0] 98 (0, 0)) := by
    rw [hw2]; exact (Below.heap_setCell _ _ _ _ hrq).trans hr1
  have ho2 : Only (fun k => k = q) w w2 := by rw [hw2]; exact HO1.out.trans (only_setCell (fun k => k = q) _ _ _ _ rfl) (fun _ _ h => h)
  rw [← hw2]
  clear hw2 hq1 hr1 c2 z2 HO1
  have HO2 := Lib.hid ho2
  have HST := Lib.hid hst'
  clear ho2 hst'
  have c1 : w2.cell? ⟨q, 1, none⟩ = some (.slice oa fs.length cap) := cell_of hq2 rfl
  have z1 : w2.frozen? ⟨q, 1, none⟩ = false := free_of hq2 _
  have r0 : w2.cell? ⟨r, 0, none⟩ = some (.int .i64 0) := cell_of hr2 rfl
  have r1 : w2.cell? ⟨r, 1, none⟩ = some (.int .i64 0) := cell_of hr2 rfl
  have y0 : w2.frozen? ⟨r, 0, none⟩ = false := free_of hr2 _
  have y1 : w2.frozen? ⟨r, 1, none⟩ = false := free_of hr2 _
  cases fs with
  | nil =>
    have HF : Hid (d.fates = []) := Lib.hid hfs
    have HR : Hid (rowAt w 98 2 (.slice oa 0 cap) 0 (fateCells [])) := Lib.hid (by have := H.out.fates; rw [hfs] at this; exact this)
    clear hfs
    go_wp2_with fail
    obtain ⟨w3, hw3⟩ : ∃ w3 : World, w3 = (w2.setCell ⟨r, 0, none⟩ (.int .i64 0)).setCell ⟨r, 1, none⟩ (.int .i64 0) := ⟨_, rfl⟩
    have hr3 : w3.heap[r]? = some (.cells #[.int .i64 0, .int .i64 0] 98 (0, 0)) := by rw [hw3]; exact heap_setCell_here _ (heap_setCell_here _ hr2)
    have hq3 : w3.heap[q]? = w2.heap[q]? := by rw [hw3]; exact (Below.heap_setCell _ _ _ _ (fun e => hrq e.symm)).trans (Below.heap_setCell _ _ _ _ (fun e => hrq e.symm))
    have ho3 : Only (fun k => k = r) w2 w3 := by rw [hw3]; exact (only_setCell (fun k => k = r) _ _ _ _ rfl).trans (only_setCell (fun k => k = r) _ _ _ _ rfl) (fun _ _ h => h)
    rw [← hw3]
    have s0 : w3.cell? ⟨r, 0, none⟩ = some (.int .i64 0) := cell_of hr3 rfl
    have s1 : w3.cell? ⟨r, 1, none⟩ = some (.int .i64 0) := cell_of hr3 rfl
    refine bodyPost_ret (v := .tuple #[.agg #[.int .i64 0, .int .i64 0], .int .i64 0]) (by simp [results, Tryz.results135, go_sem, s0, s1]) rfl ?_
    have ho : Only (fun k => k = q) w w3 := HO2.out.trans ho3 (fun i hi he => by omega)
    refine ⟨0, 0, .slice oa 0 cap, by simp [Dk.fate, HF.out], by simp [Dk.fate, HF.out], step_end (rest := []) H.out ho (hq3.trans ?_) (by rw [HF.out]; rfl) (fun k hk => by rw [HF.out]; exact hk) HR.out, ho⟩
    rw [hq2, hst, HST.out]
    rfl
  | cons f rest =>
    obtain ⟨k0, n0⟩ := f
    have hrow := H.out.fates
    have hlen : d.fates.length = rest.length + 1 := by rw [hfs]; rfl
    rw [hfs] at hrow
    obtain ⟨g, off, rfl⟩ := hrow.addr (by simp)
    have hgq : g ≠ q := fun e => by
      have := H.out.apart
      simp only [diskBlocks, List.nodup_cons] at this
      exact this.1 (by rw [← e]; simp [Value.ownBlock])
    have hglt : g < w.heap.size := hrow.lt g rfl
    have hgw : w2.heap[g]? = w.heap[g]? := HO2.out.block g hglt hgq
    have hrow2 : rowAt w2 98 2 (.slice (some ⟨g, off, none⟩) (rest.length + 1) cap) (rest.length + 1) (fateCells ((k0, n0) :: rest)) := hrow.kept (fun k hk => by
      simp only [Value.ownBlock, Option.some.injEq] at hk
      rw [← hk]; exact hgw)
    have f0 : w2.cell? ⟨g, off, none⟩ = some (.int .i64 k0) := by
      have := hrow2.cells (g := g) (off := off) rfl 0 (.int .i64 k0) rfl
      simpa [Go.WideShapes.add_plain] using this
    have f1 : w2.cell? ⟨g, off + 1, none⟩ = some (.int .i64 n0) := by
      have := hrow2.cells (g := g) (off := off) rfl 1 (.int .i64 n0) rfl
      simpa [Go.WideShapes.add_plain] using this
    have hsub := hrow.sub 1 (rest.length + 1) cap (by omega) (Nat.le_refl _) (by rw [← hlen]; exact hnc) (Nat.le_refl _)
    obtain ⟨oa', hfv⟩ : ∃ oa' : Option Addr, oa' = if cap = 1 then some ⟨g, off, none⟩ else (some (⟨g, off, none⟩ : Addr)).map (·.add (1 * 2)) := ⟨_, rfl⟩
    obtain ⟨c', hc'⟩ : ∃ c', c' = cap - 1 := ⟨_, rfl⟩
    have hown : (Value.slice oa' rest.length c').ownBlock = some g := by rw [hfv]; exact sub_own _ _ _ _ _ _
    obtain ⟨n1, hn1⟩ : ∃ n1, n1 = rest.length + 1 := ⟨_, rfl⟩
    have hsl : ∀ W : World, (Instr.slice 37 (.slice (some ⟨g, off, none⟩) n1 cap) (some (.int .i64 1)) none none).run Tryz.prog W = .ok (.slice oa' rest.length c') W := fun W => by rw [hfv, hn1, hc']; exact run_tail g off rest.length cap W
    have hn0 : ((n1 : Int) == 0) = false := by simp; omega
    have hn2 : (0 : Int) < (n1 : Int) := by omega
    have hn3 : (1 : Int) ≤ (n1 : Int) := by omega
    rw [List.length_cons, ← hn1] at c1 hq2
    have HSUB : Hid (rowAt w 98 2 (.slice oa' rest.length c') rest.length (fateCells rest)) := Lib.hid (by
      rw [hfv, hc']
      have e : (((fateCells ((k0, n0) :: rest)).drop (1 * 2)).take ((rest.length + 1 - 1) * 2)) = fateCells rest := by
        rw [fateCells_cons]
        show (fateCells rest).take (rest.length * 2) = fateCells rest
        exact List.take_of_length_le (Nat.le_of_eq (fateCells_length rest))
      rw [e] at hsub
      simpa using hsub)
    have HOWN := Lib.hid hown
    have HG : Hid (g ≠ q ∧ g < w.heap.size) := Lib.hid ⟨hgq, hglt⟩
    have HFS := Lib.hid hfs
    have HQ2 := Lib.hid hq2
    clear hrow hrow2 hsub hfv hown hfs hgw hlen hnc hglt hgq hn1 hq2 hc'
    go_upto_region 5 with fail
    obtain ⟨w3, hw3⟩ : ∃ w3 : World, w3 = w2.alloc (.cells #[.int .i64 k0, .int .i64 n0] 98) := ⟨_, rfl⟩
    obtain ⟨r', hr'⟩ : ∃ r', r' = w2.heap.size := ⟨_, rfl⟩
    have hx3 : w3.heap[r']? = some (.cells #[.int .i64 k0, .int .i64 n0] 98 (0, 0)) := by rw [hw3, hr']; exact alloc_cells _ _ _
    have hq3 : w3.heap[q]? = some (.cells #[.map (some mb), .slice (some ⟨g, off, none⟩) n1 cap, .int .i64 st'] 120 (0, 0)) := by
      rw [hw3]
      exact (Below.heap_alloc _ _ q (Nat.lt_of_lt_of_le hqlt HO2.out.size)).trans HQ2.out
    have hr3 : w3.heap[r]? = some (.cells #[.int .i64 0, .int .i64 0] 98 (0, 0)) := by rw [hw3]; exact (Below.heap_alloc _ _ r (Array.getElem?_eq_some_iff.1 hr2).1).trans hr2
    have ho3 : Only (fun k => k = q) w w3 := by rw [hw3]; exact HO2.out.trans (only_alloc (fun k => k = q) _ _) (fun _ _ h => h)
    have hrr : r' ≠ r ∧ r' ≠ q ∧ w.heap.size ≤ r' := by
      have h1 := (Array.getElem?_eq_some_iff.1 hr2).1
      have h2 := HO2.out.size
      omega
    rw [← hw3, ← hr']
    clear hw3 hr' hr2 HQ2 HO2 c1 z1 r0 r1 y0 y1 f0 f1
    have c1 : w3.cell? ⟨q, 1, none⟩ = some (.slice (some ⟨g, off, none⟩) n1 cap) := cell_of hq3 rfl
    have z1 : w3.frozen? ⟨q, 1, none⟩ = false := free_of hq3 _
    go_upto_region 6 with fail
    obtain ⟨w4, hw4⟩ : ∃ w4 : World, w4 = w3.setCell ⟨q, 1, none⟩ (.slice oa' rest.length c') := ⟨_, rfl⟩
    have hx4 : w4.heap[r']? = some (.cells #[.int .i64 k0, .int .i64 n0] 98 (0, 0)) := by rw [hw4]; exact (Below.heap_setCell _ _ _ _ hrr.2.1).trans hx3
    have hr4 : w4.heap[r]? = some (.cells #[.int .i64 0, .int .i64 0] 98 (0, 0)) := by rw [hw4]; exact (Below.heap_setCell _ _ _ _ hrq).trans hr3
    have hq4 : w4.heap[q]? = some (.cells #[.map (some mb), .slice oa' rest.length c', .int .i64 st'] 120 (0, 0)) := by rw [hw4]; exact heap_setCell_here _ hq3
    have ho4 : Only (fun k => k = q) w w4 := by rw [hw4]; exact ho3.trans (only_setCell (fun k => k = q) _ _ _ _ rfl) (fun _ _ h => h)
    rw [← hw4]
    clear hw4 hx3 hq3 hr3 ho3 c1 z1
    have HO4 := Lib.hid ho4
    have HQ4 := Lib.hid hq4
    have HRR := Lib.hid hrr
    clear ho4 hq4 hrr hsl
    have x0 : w4.cell? ⟨r', 0, none⟩ = some (.int .i64 k0) := cell_of hx4 rfl
    have x1 : w4.cell? ⟨r', 1, none⟩ = some (.int .i64 n0) := cell_of hx4 rfl
    have r0 : w4.cell? ⟨r, 0, none⟩ = some (.int .i64 0) := cell_of hr4 rfl
    have r1 : w4.cell? ⟨r, 1, none⟩ = some (.int .i64 0) := cell_of hr4 rfl
    have y0 : w4.frozen? ⟨r, 0, none⟩ = false := free_of hr4 _
    have y1 : w4.frozen? ⟨r, 1, none⟩ = false := free_of hr4 _
    obtain ⟨b1, hb1⟩ : ∃ b, ((k0 == 1) : Bool) = b := ⟨_, rfl⟩
    obtain ⟨b2, hb2⟩ : ∃ b, ((k0 == 2) : Bool) = b := ⟨_, rfl⟩
    have HB : Hid ((k0 = 1 ↔ b1 = true) ∧ (k0 = 2 ↔ b2 = true)) := Lib.hid ⟨by rw [← hb1]; simp, by rw [← hb2]; simp⟩
    have hend : ∀ (w5 : World) (er : Int), w5 = (w4.setCell ⟨r, 0, none⟩ (.int .i64 k0)).setCell ⟨r, 1, none⟩ (.int .i64 n0) → er = d.fate.1 →
        w5.cell? ⟨r, 0, none⟩ = some (.int .i64 k0) ∧ w5.cell? ⟨r, 1, none⟩ = some (.int .i64 n0) ∧ StepIs w S q mb L d (.returned (.tuple #[.agg #[.int .i64 k0, .int .i64 n0], .int .i64 er])) w5 := fun w5 er hw5 her => by
      have hr5 : w5.heap[r]? = some (.cells #[.int .i64 k0, .int .i64 n0] 98 (0, 0)) := by rw [hw5]; exact heap_setCell_here _ (heap_setCell_here _ hr4)
      have hq5 : w5.heap[q]? = w4.heap[q]? := by rw [hw5]; exact (Below.heap_setCell _ _ _ _ (fun e => hrq e.symm)).trans (Below.heap_setCell _ _ _ _ (fun e => hrq e.symm))
      have ho5 : Only (fun k => k = r) w4 w5 := by rw [hw5]; exact (only_setCell (fun k => k = r) _ _ _ _ rfl).trans (only_setCell (fun k => k = r) _ _ _ _ rfl) (fun _ _ h => h)
      have ho : Only (fun k => k = q) w w5 := HO4.out.trans ho5 (fun i hi he => by omega)
      refine ⟨cell_of hr5 rfl, cell_of hr5 rfl, k0, n0, .slice oa' rest.length c', by rw [her], ?_, step_end (rest := rest) H.out ho (hq5.trans ?_) (by rw [HFS.out]; rfl) (fun k hk => by rw [HOWN.out] at hk; exact hk) HSUB.out, ho⟩
      · simp only [Dk.fate, HFS.out]
        split
        · rfl
        · split <;> rfl
      · rw [HQ4.out, hst, HST.out]
    have HEND := Lib.hid hend
    clear hend
    cases b1
    · cases b2
      · have he : (0 : Int) = d.fate.1 := by
          have h1 : ¬ k0 = 1 := fun h => by cases HB.out.1.1 h
          have h2 : ¬ k0 = 2 := fun h => by cases HB.out.2.1 h
          simp [Dk.fate, HFS.out, h1, h2]
        have HE := Lib.hid he
        clear he
        go_wp2_with fail
        obtain ⟨s0, s1, hx⟩ := HEND.out _ 0 rfl HE.out
        exact bodyPost_ret (v := .tuple #[.agg #[.int .i64 k0, .int .i64 n0], .int .i64 0]) (by simp [results, Tryz.results135, go_sem, s0, s1]) rfl hx
      · have he : (6 : Int) = d.fate.1 := by
          have h2 : k0 = 2 := HB.out.2.2 rfl
          simp [Dk.fate, HFS.out, h2]
        have HE := Lib.hid he
        clear he
        go_wp2_with fail
        obtain ⟨s0, s1, hx⟩ := HEND.out _ 6 rfl HE.out
        exact bodyPost_ret (v := .tuple #[.agg #[.int .i64 k0, .int .i64 n0], .int .i64 6]) (by simp [results, Tryz.results135, go_sem, s0, s1]) rfl hx
    · have he : (5 : Int) = d.fate.1 := by
        have h1 : k0 = 1 := HB.out.1.2 rfl
        simp [Dk.fate, HFS.out, h1]
      have HE := Lib.hid he
      clear he
      go_wp2_with fail
      obtain ⟨s0, s1, hx⟩ := HEND.out _ 5 rfl HE.out
      exact bodyPost_ret (v := .tuple #[.agg #[.int .i64 k0, .int .i64 n0], .int .i64 5]) (by simp [results, Tryz.results135, go_sem, s0, s1]) rfl hx
end Go.Proofs.YtlgcoaeddeiegaaGreat

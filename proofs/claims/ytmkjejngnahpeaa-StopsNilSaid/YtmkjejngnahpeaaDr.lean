/- Disk: rows that begin anywhere in a block and need not fill it; append to them. -/
import Derived.Test.YtmkjejngnahpeaaKit
namespace Go.Proofs.Ytmkjejngnahpeaa
open Go Go.RowKit

/-- v has n elements of e somewhere in a block; their cells are xs; none of the block's cells is frozen. -/
def rowAt (w : World) (e : TypeId) (size : Nat) (v : Value) (n : Nat) (xs : List Value) : Prop :=
  xs.length = n * size ∧
  ((v = .slice none 0 0 ∧ n = 0) ∨
   ∃ g off cap cur fr, v = .slice (some ⟨g, off, none⟩) n cap ∧ w.heap[g]? = some (.cells cur e fr) ∧ n ≤ cap ∧ cap ≤ maxLen ∧ off + cap * size ≤ cur.size ∧ freeRow fr cur.size ∧ (cur.toList.drop off).take (n * size) = xs)

section
variable {w : World} {base : Nat} {e : TypeId} {size : Nat} {v : Value} {n : Nat} {xs : List Value}
theorem rowAt.of_row (h : hasRow w base e size v n xs) : rowAt w e size v n xs := by
  refine ⟨h.1, ?_⟩
  rcases h.2 with h2 | ⟨g, cap, cur, fr, hv, _, hg, hn, hm, hs, hf, ht⟩
  · exact .inl h2
  · exact .inr ⟨g, 0, cap, cur, fr, hv, hg, hn, hm, by omega, hf, by simpa using ht⟩
theorem rowAt.kept {w' : World} (h : rowAt w e size v n xs) (hk : ∀ k, v.ownBlock = some k → w'.heap[k]? = w.heap[k]?) : rowAt w' e size v n xs := by
  refine ⟨h.1, ?_⟩
  rcases h.2 with hn | ⟨g, off, cap, cur, fr, rfl, hgg, rest⟩
  · exact .inl hn
  · exact .inr ⟨g, off, cap, cur, fr, rfl, (hk g rfl).trans hgg, rest⟩
theorem rowAt.lt (h : rowAt w e size v n xs) : ∀ k, v.ownBlock = some k → k < w.heap.size := by
  intro k hk
  rcases h.2 with ⟨rfl, _⟩ | ⟨g, off, cap, cur, fr, rfl, hg, _⟩
  · simp [Value.ownBlock] at hk
  · simp [Value.ownBlock] at hk
    subst hk
    exact (Array.getElem?_eq_some_iff.1 hg).1
theorem rowAt.cells {g off m c : Nat} (h : rowAt w e size v n xs) (hg : v = .slice (some ⟨g, off, none⟩) m c) : ∀ j u, xs[j]? = some u → w.cell? ((⟨g, off, none⟩ : Addr).add j) = some u := by
  intro j u hu
  rcases h.2 with ⟨rfl, _⟩ | ⟨g', o', cap, cur, fr, rfl, hgg, _, _, _, _, htake⟩
  · cases hg
  · simp only [Value.slice.injEq, Option.some.injEq, Addr.mk.injEq] at hg
    obtain ⟨⟨rfl, rfl, -⟩, -, -⟩ := hg
    rw [Go.WideShapes.add_plain, cell_of_row w g' (o' + j) cur e fr hgg]
    rw [← htake, List.getElem?_take] at hu
    split at hu
    · simpa using hu
    · cases hu
end

set_option maxHeartbeats 2000000 in
theorem run_append_at {P : Program} (w : World) (t u ty e : TypeId) (i : TypeInfo) (z : Value) (size bytes : Nat) (ht : P.underlying t = some (.slice e)) (hi : P.info? e = some i) (hz : i.zero = some z)
    (hsize : i.size = size) (hby : i.bytes = bytes) (hzs : z.cells.size = size)
    (v : Value) (n : Nat) (xs : List Value) (hown : rowAt w e size v n xs)
    (x : Value) (m : Nat) (news : List Value) (hsrc : Src P w size u x m news)
    (h63 : n + m ≤ maxLen) (hbytes : (n + m) * bytes ≤ 140737488355328) :
    ∃ v' w', (Builtin.append_ #[t, u] ty #[v, x]).run P w = .ok v' w' ∧ rowAt w' e size v' (n + m) (xs ++ news) ∧ w.grownBy w' v.ownBlock ∧ (v'.ownBlock = v.ownBlock ∨ v'.ownBlock = some w.heap.size) ∧
      (v' = .slice none 0 0 ↔ v = .slice none 0 0 ∧ m = 0) := by
  subst hsize
  subst hby
  have hlen := hsrc.len
  have hcs0 := hsrc.cells w rfl
  have hcs1 := hsrc.cells w.drew rfl
  have hl := hsrc.num
  have hsmall : n + m ≤ 9223372036854775807 := by simp only [maxLen] at h63; omega
  have hlen2 : (xs ++ news).length = (n + m) * i.size := by rw [List.length_append, hown.1, hl, Nat.add_mul]
  have grown : ∀ (old : Nat), old < n + m → ∀ (row : Option Nat),
      rowAt (w.drew.alloc (.cells (xs.toArray ++ news.toArray ++ Builtin.zeroCells z.cells (grownCap w (n + m) old e - (n + m))) e)) e i.size
        (.slice (some ⟨w.heap.size, 0, none⟩) (n + m) (grownCap w (n + m) old e)) (n + m) (xs ++ news) ∧
      w.grownBy (w.drew.alloc (.cells (xs.toArray ++ news.toArray ++ Builtin.zeroCells z.cells (grownCap w (n + m) old e - (n + m))) e)) row := by
    intro old ho row
    have hge := grownCap_ge w (n + m) old e
    have hcm : grownCap w (n + m) old e ≤ maxLen := grownCap_le_maxLen w (n + m) old e h63
    refine ⟨⟨hlen2, .inr ⟨w.heap.size, 0, _, _, (0, 0), rfl, heap_alloc_new w.drew _, hge, hcm, ?_, freeRow_zero _, ?_⟩⟩, ⟨rfl, rfl, rfl, by simp, fun k hk _ => (show (w.heap.push _)[k]? = w.heap[k]? by rw [Array.getElem?_push, if_neg (by omega)])⟩⟩
    · refine Nat.le_of_eq ?_
      simp only [Array.size_append, List.size_toArray, size_zeroCells, hzs, hown.1, hl, ← Nat.add_mul, Nat.zero_add]
      congr 1
      omega
    · simp only [Array.toList_append, List.append_assoc, List.drop_zero]
      rw [← List.append_assoc, ← hlen2]
      exact List.take_left
  rcases hown.2 with ⟨rfl, rfl⟩ | ⟨g, off, cap, cur, fr, rfl, hg, hnc, hcm, hcs, hfr, htake⟩
  · have hx : xs = [] := List.eq_nil_of_length_eq_zero (by simpa using hown.1)
    subst hx
    by_cases hm : m = 0
    · subst hm
      have hn : news = [] := List.eq_nil_of_length_eq_zero (by simpa using hl)
      subst hn
      refine ⟨.slice none 0 0, w, ?_, ⟨by simp, .inl ⟨rfl, rfl⟩⟩, ⟨rfl, rfl, rfl, Nat.le_refl _, fun _ _ _ => rfl⟩, .inl rfl, by simp⟩
      rcases hsrc.ty with ⟨e', hd⟩ | hd <;> first | simp [Builtin.append_, run_underlying ht, run_underlying hd, sizeOf, typeInfo, hi, hlen, hcs0]
    · have hn : m ≠ 0 := hm
      have h63' : ¬ (9223372036854775807 < (m : Int)) := by omega
      have h48' : ¬ (281474976710656 < Builtin.nextslicecap m 0 * i.bytes) := by
        rw [nextslicecap_zero (by omega)]
        have hb := hbytes
        simp only [Nat.zero_add] at hb
        omega
      have hgr := grown 0 (by omega) (Value.ownBlock (.slice none 0 0))
      refine ⟨_, _, ?_, hgr.1, hgr.2, .inr rfl, by simp [hm]⟩
      rcases hsrc.ty with ⟨e', hd⟩ | hd <;> first | (simp [Builtin.append_, run_underlying ht, run_underlying hd, sizeOf, typeInfo, zeroValue, hi, hz, hlen, hn, h63', h48', Question.forced, run_firstCells_none, hcs1, newRow, grownCap]; done)
  · by_cases hroom : n + m ≤ cap
    · have hfit : off + n * i.size + news.length ≤ cur.size := by
        have h1 : (n + m) * i.size ≤ cap * i.size := Nat.mul_le_mul_right _ hroom
        rw [Nat.add_mul] at h1
        rw [hl]
        omega
      have hst := run_storeCells_fr P g (off + n * i.size) e fr news 0 cur w hg hfr (by simpa using hfit) hsrc.one
      simp only [Nat.add_zero] at hst
      obtain ⟨C, hC⟩ : ∃ C, C = (cur.toList.take (off + n * i.size) ++ news ++ cur.toList.drop (off + n * i.size + news.length)).toArray := ⟨_, rfl⟩
      rw [← hC] at hst
      have hCs : C.size = cur.size := by
        rw [hC]
        simp only [List.size_toArray, List.length_append, List.length_take, List.length_drop, Array.length_toList]
        omega
      have hCt : (C.toList.drop off).take ((n + m) * i.size) = xs ++ news := by
        rw [hC, ← hlen2]
        have h2 : (cur.toList.take (off + n * i.size)).drop off = xs := by rw [List.drop_take, ← htake]; congr 1; omega
        rw [List.append_assoc, List.drop_append_of_le_length (by rw [List.length_take, Array.length_toList]; omega), h2, ← List.append_assoc]
        exact List.take_left
      refine ⟨.slice (some ⟨g, off, none⟩) (n + m) cap, w.setRow g C, ?_, ⟨hlen2, .inr ⟨g, off, cap, C, fr, rfl, setRow_heap w g cur C e fr hg, hroom, hcm, by rw [hCs]; exact hcs, by rw [hCs]; exact hfr, hCt⟩⟩, ⟨rfl, rfl, rfl, by simp, fun k _ hk => setRow_other w g k _ (fun e => hk (by simp [e, Value.ownBlock]))⟩, .inl rfl, by simp⟩
      rcases hsrc.ty with ⟨e', hd⟩ | hd <;> (simp [Builtin.append_, run_underlying ht, run_underlying hd, sizeOf, typeInfo, hi, hlen, hroom, hcs0, Go.WideShapes.add_plain, hst]; done)
    · have hgr := grown cap (by omega) (Value.ownBlock (.slice (some ⟨g, off, none⟩) n cap))
      have hn : ¬ (n + m ≤ cap) := hroom
      have h63' : ¬ (9223372036854775807 < ((n : Int) + (m : Int))) := by omega
      have h48' : ¬ (281474976710656 < Builtin.nextslicecap (n + m) cap * i.bytes) := by
        have := growslice_fits (old := cap) (need := n + m) (bytes := i.bytes) (by omega) hbytes
        omega
      have hfo := run_firstCells_some (P := P) w.drew i.size n ⟨g, off, none⟩ n cap xs hown.1 (fun j u hu => by
        have := hown.cells (g := g) (off := off) rfl j u hu
        simpa [Go.WideShapes.add_plain] using this)
      refine ⟨_, _, ?_, hgr.1, hgr.2, .inr rfl, by simp⟩
      rcases hsrc.ty with ⟨e', hd⟩ | hd <;> first | (simp [Builtin.append_, run_underlying ht, run_underlying hd, sizeOf, typeInfo, zeroValue, hi, hz, hlen, hn, h63', h48', Question.forced, hcs1, hfo, newRow, grownCap]; done) | (simp [Builtin.append_, run_underlying ht, run_underlying hd, sizeOf, typeInfo, zeroValue, hi, hz, hlen, hn, h63', h48', Question.forced, hcs1, hfo, newRow, grownCap]; congr 2; apply Array.ext'; simp [List.append_assoc]; done)



theorem wpList_append_at {P : Program} (w : World) {ops : Array Oper} {rest : List Oper} {o : Oper} {a : Act} {Q : Exit → Act → World → Prop} (hgd : o.guard = none) (s x : Operand) (t u : TypeId)
    (ho : o.op = .call { callee := .builtin .append, args := #[s, x], argTypes := #[t, u] })
    (e : TypeId) (z : Value) (size bytes : Nat) (ht : P.underlying t = some (.slice e)) (hinfo : (P.info? e).map (fun i => (i.zero, i.size, i.bytes)) = some (some z, size, bytes)) (hzs : z.cells.size = size)
    (v : Value) (n : Nat) (xs : List Value) (hs : a.eval s = v) (hown : rowAt w e size v n xs)
    (xv : Value) (m : Nat) (news : List Value) (hx : a.eval x = xv) (hsrc : Src P w size u xv m news)
    (h63 : n + m ≤ maxLen) (hbytes : (n + m) * bytes ≤ 140737488355328)
    (h : ∀ v' w', rowAt w' e size v' (n + m) (xs ++ news) → w.grownBy w' v.ownBlock → (v'.ownBlock = v.ownBlock ∨ v'.ownBlock = some w.heap.size) → (v' = .slice none 0 0 ↔ v = .slice none 0 0 ∧ m = 0) → wpList P ops Q rest (a.put o.dst v') w') : wpList P ops Q (o :: rest) a w := by
  refine wpList_plain hgd fun K hK' => ?_
  obtain ⟨i, hi, hz, hsz, hby⟩ := info_parts hinfo
  obtain ⟨v', w', hrun, r1, r2, r3, r4⟩ := run_append_at (P := P) w t u o.type e i z size bytes ht hi hz hsz hby hzs v n xs hown xv m news hsrc h63 hbytes
  unfold Oper.wp
  simp [execOp, ho, resolve, invoke, builtin, hs, hx, hrun, Result.andThen]
  exact hK' _ _ (h v' w' r1 r2 r3 r4)
/-- a part of a row: v[l:h:m] -/
theorem rowAt.sub {w : World} {e : TypeId} {size : Nat} {oa : Option Addr} {n cap : Nat} {xs : List Value} (h : rowAt w e size (.slice oa n cap) n xs) (l k m : Nat) (hl : l ≤ k) (hk : k ≤ n) (hkm : k ≤ m) (hm : m ≤ cap) :
    rowAt w e size (.slice (if m = l then oa else oa.map (·.add (l * size))) (k - l) (m - l)) (k - l) ((xs.drop (l * size)).take ((k - l) * size)) := by
  have hlen : ((xs.drop (l * size)).take ((k - l) * size)).length = (k - l) * size := by
    rw [List.length_take, List.length_drop, h.1]
    have h1 : k * size ≤ n * size := Nat.mul_le_mul_right _ hk
    have h2 : (k - l) * size = k * size - l * size := Nat.sub_mul _ _ _
    omega
  refine ⟨hlen, ?_⟩
  rcases h.2 with ⟨hv, h0⟩ | ⟨g, off, c, cur, fr, hv, hg, hnc, hcm, hcs, hfr, ht⟩
  · simp only [Value.slice.injEq] at hv
    obtain ⟨rfl, -, rfl⟩ := hv
    obtain rfl : m = 0 := by omega
    obtain rfl : l = 0 := by omega
    obtain rfl : k = 0 := by omega
    exact .inl ⟨by simp, rfl⟩
  · simp only [Value.slice.injEq] at hv
    obtain ⟨rfl, -, rfl⟩ := hv
    refine .inr ⟨g, if m = l then off else off + l * size, m - l, cur, fr, ?_, hg, by omega, by omega, ?_, hfr, ?_⟩
    · split
      · rfl
      · simp [Go.WideShapes.add_plain]
    · have h1 : (m - l) * size = m * size - l * size := Nat.sub_mul _ _ _
      have h2 : m * size ≤ cap * size := Nat.mul_le_mul_right _ hm
      have h3 : l * size ≤ m * size := Nat.mul_le_mul_right _ (by omega)
      split
      · rename_i he
        subst he
        omega
      · omega
    · split
      · rename_i he
        have hkl : k - l = 0 := by omega
        rw [hkl]; simp
      · rw [← ht, List.drop_take, List.take_take, List.drop_drop]
        congr 1
        have h1 : (k - l) * size = k * size - l * size := Nat.sub_mul _ _ _
        have h2 : k * size ≤ n * size := Nat.mul_le_mul_right _ hk
        omega
/-- v has n elements that may be read; the block may hold more, and be of another type -/
def readAt (w : World) (size : Nat) (v : Value) (n : Nat) (xs : List Value) : Prop :=
  xs.length = n * size ∧
  ((n = 0 ∧ ∃ oa cap, v = .slice oa 0 cap ∧ (oa = none → cap = 0)) ∨
   ∃ g off cap, v = .slice (some ⟨g, off, none⟩) n cap ∧ 0 < n ∧ g < w.heap.size ∧ n ≤ cap ∧ ∀ j u, xs[j]? = some u → w.cell? ⟨g, off + j, none⟩ = some u)
section
variable {w : World} {e : TypeId} {size : Nat} {v : Value} {n : Nat} {xs : List Value}
theorem rowAt.read (h : rowAt w e size v n xs) : readAt w size v n xs := by
  refine ⟨h.1, ?_⟩
  by_cases h0 : n = 0
  · refine .inl ⟨h0, ?_⟩
    subst h0
    rcases h.2 with ⟨rfl, _⟩ | ⟨g, off, cap, cur, fr, rfl, _⟩
    · exact ⟨none, 0, rfl, fun _ => rfl⟩
    · exact ⟨_, _, rfl, fun h => by cases h⟩
  rcases h.2 with h2 | ⟨g, off, cap, cur, fr, rfl, hg, hn, hm, _, _, _⟩
  · exact absurd h2.2 h0
  · refine .inr ⟨g, off, cap, rfl, by omega, (Array.getElem?_eq_some_iff.1 hg).1, hn, fun j u hu => ?_⟩
    have := h.cells (g := g) (off := off) rfl j u hu
    simpa [Go.WideShapes.add_plain] using this
theorem readAt.kept {w' : World} (h : readAt w size v n xs) (hk : ∀ k, k < w.heap.size → v.ownBlock = some k → 0 < n → w'.heap[k]? = w.heap[k]?) : readAt w' size v n xs := by
  refine ⟨h.1, ?_⟩
  rcases h.2 with hn | ⟨g, off, cap, rfl, h0, hg, hn, hc⟩
  · exact .inl hn
  · have h1 := hk g hg rfl h0
    refine .inr ⟨g, off, cap, rfl, h0, ?_, hn, fun j u hu => ?_⟩
    · have h2 : w.heap[g]? = some w.heap[g] := Array.getElem?_eq_getElem hg
      rw [h2] at h1
      exact (Array.getElem?_eq_some_iff.1 h1).1
    · rw [← hc j u hu]
      simp only [World.cell?, h1]
theorem readAt.lt (h : readAt w size v n xs) (h0 : 0 < n) : ∀ k, v.ownBlock = some k → k < w.heap.size := by
  intro k hk
  rcases h.2 with ⟨hn, _⟩ | ⟨g, off, cap, rfl, _, hg, _⟩
  · omega
  · simp [Value.ownBlock] at hk
    subst hk
    exact hg
theorem readAt.cells {g off m c : Nat} (h : readAt w size v n xs) (hg : v = .slice (some ⟨g, off, none⟩) m c) : ∀ j u, xs[j]? = some u → w.cell? ((⟨g, off, none⟩ : Addr).add j) = some u := by
  intro j u hu
  rcases h.2 with ⟨rfl, _⟩ | ⟨g', o', cap, rfl, _, _, _, hc⟩
  · have := h.1
    rw [Nat.zero_mul] at this
    rw [List.eq_nil_of_length_eq_zero this] at hu
    cases hu
  · simp only [Value.slice.injEq, Option.some.injEq, Addr.mk.injEq] at hg
    obtain ⟨⟨rfl, rfl, -⟩, -, -⟩ := hg
    rw [Go.WideShapes.add_plain]
    exact hc j u hu
theorem readAt.shape (h : readAt w size v n xs) : ∃ oa cap, v = .slice oa n cap := by
  rcases h.2 with ⟨rfl, oa, cap, rfl, _⟩ | ⟨g, off, cap, rfl, _⟩
  · exact ⟨oa, cap, rfl⟩
  · exact ⟨_, _, rfl⟩
theorem readAt.addr {oa : Option Addr} {cap : Nat} (h : readAt w size (.slice oa n cap) n xs) (hn : 0 < n) : ∃ g off, oa = some ⟨g, off, none⟩ := by
  rcases h.2 with ⟨h0, _⟩ | ⟨g, off, c, hv, _⟩
  · omega
  · simp only [Value.slice.injEq] at hv
    exact ⟨g, off, hv.1⟩
theorem readAt.cap {oa : Option Addr} {cap : Nat} (h : readAt w size (.slice oa n cap) n xs) : n ≤ cap := by
  rcases h.2 with ⟨h0, _⟩ | ⟨g, off, c, hv, _, _, hn, _⟩
  · omega
  · simp only [Value.slice.injEq] at hv
    rw [hv.2.2]; exact hn
theorem readAt.take {oa : Option Addr} {cap : Nat} (h : readAt w size (.slice oa n cap) n xs) (k : Nat) (hk : k ≤ n) : readAt w size (.slice oa k cap) k (xs.take (k * size)) := by
  refine ⟨by rw [List.length_take, h.1]; exact Nat.min_eq_left (Nat.mul_le_mul_right _ hk), ?_⟩
  by_cases h0 : k = 0
  · subst h0
    refine .inl ⟨rfl, oa, cap, rfl, fun he => ?_⟩
    subst he
    rcases h.2 with ⟨_, oa, c, hv, hc⟩ | ⟨g, off, c, hv, _⟩
    · simp only [Value.slice.injEq] at hv
      rw [hv.2.2]; exact hc hv.1.symm
    · cases hv
  rcases h.2 with ⟨h1, _⟩ | ⟨g, off, c, hv, hn0, hg, hn, hc⟩
  · omega
  · simp only [Value.slice.injEq] at hv
    obtain ⟨rfl, -, rfl⟩ := hv
    refine .inr ⟨g, off, cap, rfl, by omega, hg, by omega, fun j u hu => ?_⟩
    rw [List.getElem?_take] at hu
    split at hu
    · exact hc j u hu
    · cases hu
theorem add_zero_map (oa : Option Addr) : oa.map (fun x => x.add 0) = oa := by
  cases oa with
  | none => rfl
  | some a => simp [Addr.add]
theorem readAt.map0 {oa : Option Addr} {cap : Nat} (h : readAt w size (.slice oa n cap) n xs) : oa.map (fun x => x.add 0) = oa ∧ n ≤ cap := ⟨add_zero_map oa, h.cap⟩
/-- but for its first element -/
theorem readAt.tail {g off cap m : Nat} (h : readAt w size (.slice (some ⟨g, off, none⟩) (m + 1) cap) (m + 1) xs) : readAt w size (.slice (if cap = 1 then some ⟨g, off, none⟩ else (some (⟨g, off, none⟩ : Addr)).map (·.add (1 * size))) m (cap - 1)) m (xs.drop size) := by
  refine ⟨by rw [List.length_drop, h.1, Nat.add_mul]; omega, ?_⟩
  by_cases hm0 : m = 0
  · subst hm0
    refine .inl ⟨rfl, _, _, rfl, fun he => ?_⟩
    split at he <;> cases he
  rcases h.2 with ⟨h0, _⟩ | ⟨g', o', c, hv, _, hg, hn, hc⟩
  · omega
  · simp only [Value.slice.injEq, Option.some.injEq, Addr.mk.injEq] at hv
    obtain ⟨⟨rfl, rfl, -⟩, -, rfl⟩ := hv
    rw [if_neg (show ¬ cap = 1 by omega)]
    refine .inr ⟨g, off + size, cap - 1, by simp [Go.WideShapes.add_plain], by omega, hg, by omega, fun j u hu => ?_⟩
    rw [List.getElem?_drop] at hu
    have := hc (size + j) u hu
    rwa [← Nat.add_assoc] at this
theorem Src.of_read {P : Program} {u e : TypeId} (hu : P.underlying u = some (.slice e)) (h : readAt w size v n xs) (h1 : ∀ v ∈ xs, v.oneCell' = true) : Src P w size u v n xs := by
  rcases h.2 with ⟨rfl, oa, cap, rfl, _⟩ | ⟨g, off, c, rfl, _⟩
  · have hx : xs = [] := List.eq_nil_of_length_eq_zero (by simpa using h.1)
    subst hx
    cases oa with
    | none => exact Src.none hu _
    | some a => exact Src.slice hu a 0 cap [] (by simp) (fun j u hj => by simp at hj) h1
  · exact Src.slice hu _ n c xs h.1 (fun j u hj => h.cells rfl j u hj) h1
end
end Go.Proofs.Ytmkjejngnahpeaa

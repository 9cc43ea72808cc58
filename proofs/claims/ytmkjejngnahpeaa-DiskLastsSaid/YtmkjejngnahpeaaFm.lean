/- Disk: going over the map of files; a file is put into a disk. -/
import Derived.Test.YtmkjejngnahpeaaFk
import Derived.RangeFuncWrites
import Derived.Sort.MapsRangeIn
namespace Go.Proofs.Ytmkjejngnahpeaa
open Go Go.Maps Go.RowKit Go.Shelf
open Go.Proofs (encStr)
attribute [local go_sem] Oper.semAt_some

/-- maps and iterators lie as they lay, but block ob -/
structure WalksBut (ob : Nat) (W W' : World) : Prop where
  size : W.heap.size ≤ W'.heap.size
  same : ∀ (k : Nat) (o : Obj), k ≠ ob → W.heap[k]? = some o → o.isWalk = true → W'.heap[k]? = some o
theorem WalksBut.trans {ob : Nat} {A B C : World} (h : WalksBut ob A B) (k : WalksBut ob B C) : WalksBut ob A C :=
  ⟨Nat.le_trans h.size k.size, fun i o hn hi ho => k.same i o hn (h.same i o hn hi ho) ho⟩
theorem WalksBut.put {ob : Nat} (W : World) (l : Nat) (o o' : Obj) (h : W.heap[l]? = some o) (hw : o.isWalk = false) : WalksBut ob W (W.putObj l o') := by
  have h1 := KeepsWalks.putObj o' h hw
  exact ⟨h1.size, fun k o _ hk ho => h1.same k o hk ho⟩
theorem WalksBut.only {ob : Nat} {W W' : World} (h : Only (fun k => k = ob) W W') : WalksBut ob W W' :=
  ⟨h.size, fun k _ hn hk _ => (h.block k (Array.getElem?_eq_some_iff.1 hk).1 hn).trans hk⟩
theorem ranges_but {w w' : World} {ob b r n : Nat} {D : DataW Unit} {left : Lit → Bool} {cnt : Nat} (h : w.ranges Try.prog 9 ptrElem b r n D left cnt) (hk : WalksBut ob w w') (h1 : b ≠ ob) (h2 : r ≠ ob) : w'.ranges Try.prog 9 ptrElem b r n D left cnt := by
  obtain ⟨es, clock, since, seen, c0, hb, F, hs, hD, hr, rest⟩ := h
  exact ⟨es, clock, since, seen, c0, hk.same b _ h1 hb rfl, F, hs, hD, hk.same r _ h2 hr rfl, rest⟩
abbrev FlOf (L : List Fl) := { x : Fl // x ∈ L }
def encFl (L : List Fl) (x : FlOf L) : Array Value := #[encStr x.1.f.name, .pointer (some ⟨x.1.blk, 0, none⟩)]
/-- all have come, each once -/
def AllCame (L : List Fl) (xs : List (FlOf L)) : Prop := xs.Nodup ∧ ∀ x : FlOf L, x ∈ xs
theorem nodup_sub_lengthP {α : Type} : ∀ {l l' : List α}, l.Nodup → (∀ x ∈ l, x ∈ l') → l.length ≤ l'.length := by
  classical
  intro l l' h1 h2
  exact nodup_sub_length h1 h2
set_option maxRecDepth 100000 in
set_option maxHeartbeats 1000000 in
theorem pairsIn (F : Fence) (n : Nat) (h8 : F.fn 162) (hro : F.round = none) (hn : 1 ≤ n) (l Bm mb ob nn : Nat) (D : DataW Unit) (L : List Fl) (hD : Dic D (pairsF L)) (hnd : (L.map (·.f.name)).Nodup)
    (J Jx : List (FlOf L) → World → Prop) (W : World) (hJ : AbidesFrom W.heap.size J) (hm : W.cell? ⟨Bm, 0, none⟩ = some (.map (some mb))) (hown : W.ownsMap Try.prog 9 ptrElem mb nn D) (hne : mb ≠ ob) (hob : ob < W.heap.size)
    (hY : ∀ pre x W1, J pre W1 → pre.length < L.length → YieldAt F (n - 1) Try.prog l (encFl L x) W1 fun e W' =>
      (e = .returned (.bool true) ∧ J (pre ++ [x]) W' ∧ WalksBut ob W1 W') ∨ (e = .returned (.bool false) ∧ Jx (pre ++ [x]) W')) (h0 : J [] W) :
    CallsIn F n Try.prog 162 #[.func (.yield l) #[] #[], .pointer (some ⟨Bm, 0, none⟩)] W fun e W' => (∃ v, e = .returned v) ∧ ((∃ xs, AllCame L xs ∧ J xs W') ∨ ∃ pre, Jx pre W') := by
  have HD := Lib.hid hD
  have HND := Lib.hid hnd
  have HJ := Lib.hid hJ
  have HY := Lib.hid hY
  clear hD hnd hJ hY
  refine callsIn_of_wp Try.func162 rfl h8 ?_ hro
  simp only [Try.ntmps162, List.size_toArray, List.length_cons, List.length_nil, Nat.reduceAdd, Nat.reduceSub, Array.replicate_succ, Array.replicate_zero, List.push_toArray, List.append_toArray, List.nil_append, List.cons_append]
  gi_wp2_with (gi_at_range; refine wpListIn_range_own _ rfl _ 120 rfl 9 176 (string_keyed Try.underlying9) Try.underlying120 _ mb nn _ rfl hown ?_; intro w0 hrg0 hg0 hs0)
  go_frame
  gi_loopw [3, 4] (fun _ _ wr => ∃ (left : Lit → Bool) (cnt : Nat) (ps : List (FlOf L)), wr.ranges Try.prog 9 ptrElem mb W.heap.size nn D left cnt ∧ Hid (ps.Nodup ∧ ∀ x : FlOf L, x ∈ ps ↔ left (.string x.1.f.name) = false) ∧ J ps wr)
    (fun _ _ wr => wr.rangeLeft mb W.heap.size)
  case atStart =>
    refine ⟨_, _, [], hrg0, Lib.hid ⟨List.nodup_nil, fun x => ?_⟩, HJ.out [] W w0 none h0 hg0 (fun r e => by cases e)⟩
    have : has D (.string x.1.f.name) = true := (HD.out.has x.1.f.name).2 ⟨_, List.mem_map_of_mem (f := fun x : Fl => (x.f.name, x.blk)) x.2, rfl⟩
    rw [this]
    simp
  case round =>
    obtain ⟨left, cnt, ps, hrg, HP, hJs⟩ := hrel
    gi_wp2_with (first
      | (gi_at_next; refine wpListIn_next_ranges _ rfl _ rfl 9 (string_keyed Try.underlying9) ptrElem encStr id (fun key kl hk => by obtain ⟨x, hx, _⟩ := Maps.keyOf_str Try.underlying9 hk; exact ⟨x, hx⟩) (fun v _ _ => ⟨v, rfl⟩) mb W.heap.size nn _ _ _ rfl hrg ?_ ?_)
      | gi_in)
    · intro hc0 hl0
      have HX : Hid (AllCame L ps) := Lib.hid ⟨HP.out.1, fun x => (HP.out.2 x).2 (hl0 _)⟩
      gi_wp2
      go_end0
      exact ⟨⟨_, rfl⟩, .inl ⟨ps, HX.out, hJs⟩⟩
    · intro x c kl yd yp w2 cnt2 hkey hlk hv hat hrg2 hlt hg2 hs2 hen
      obtain ⟨x', ex, rfl, _⟩ := Maps.keyOf_str Try.underlying9 hkey
      obtain rfl : x = x' := encStr_inj ex
      obtain ⟨b, hb, hy⟩ := HD.out.came hat
      have hc : c = .pointer (some ⟨b, 0, none⟩) := ptrElem_val hv hy
      subst hc
      obtain ⟨z, hz, rfl, rfl⟩ := mem_pairsF hb
      obtain ⟨x, hx⟩ : ∃ x : FlOf L, x = ⟨z, hz⟩ := ⟨_, rfl⟩
      have hz1 : z = x.1 := by rw [hx]
      subst hz1
      have hJ2 : J ps w2 := HJ.out ps wr w2 (some W.heap.size) hJs hg2 (fun r e => by cases e; exact ⟨Nat.le_refl _, hrg.iter_walk⟩)
      have hnin : x ∉ ps := fun hin => by
        have := (HP.out.2 x).1 hin
        rw [hlk] at this
        cases this
      have hlen : ps.length < L.length := by
        have h1 : ((ps ++ [x]).map (·.1)).Nodup := by
          rw [List.map_append, List.nodup_append]
          refine ⟨?_, by simp, fun a ha b hb e => ?_⟩
          · exact List.pairwise_map.2 (HP.out.1.imp fun {a b} hab he => hab (Subtype.ext he))
          · obtain ⟨u, hu, rfl⟩ := List.mem_map.1 ha
            simp only [List.map_cons, List.map_nil, List.mem_singleton] at hb
            exact hnin (by rw [← Subtype.ext (e.trans hb)]; exact hu)
        have h2 := nodup_sub_lengthP h1 (l' := L) (fun u hu => by
          obtain ⟨v, _, rfl⟩ := List.mem_map.1 hu
          exact v.2)
        simp at h2
        omega
      obtain ⟨fn, tmps, assign, body, hy', hR⟩ := HY.out ps x w2 hJ2 hlen
      dsimp only [encFl] at hy'
      have HRD := Lib.hid hR
      have HP2 : Hid ((ps ++ [x]).Nodup ∧ ∀ u : FlOf L, u ∈ ps ++ [x] ↔ (left (.string u.1.f.name) && !(Lit.string u.1.f.name).sameKey (.string x.1.f.name)) = false) := Lib.hid ⟨List.nodup_append.2 ⟨HP.out.1, by simp, fun a ha b hb e => by
          simp only [List.mem_singleton] at hb
          exact hnin (by rw [← hb, ← e]; exact ha)⟩, fun u => by
          rw [sameKey_str]
          by_cases hu : u = x
          · rw [hu]; simp
          · have hun : ¬ u.1.f.name = x.1.f.name := fun he => hu (Subtype.ext (eq_of_name HND.out u.2 x.2 he))
            rw [decide_eq_false hun]
            simp [hu, HP.out.2 u]⟩
      clear hs2 hR hat hv hkey hy hb hJ2 hlen hnin hx
      gi_wp2
      refine HRD.out.mono ?_
      rintro e W3 (⟨rfl, hJ3, hk3⟩ | ⟨rfl, hJx3⟩)
      · gi_wp2
        have hrg3 := ranges_but hrg2 hk3 hne (by omega)
        go_roundw
        case rel => exact ⟨_, cnt2, ps ++ [x], hrg3, HP2, hJ3⟩
        case measure => rw [hrg3.left_eq, hrg.left_eq]; exact hlt
      · gi_wp2
        refine bodyPost_ret (results_none rfl _ _ _) rfl ?_
        exact ⟨⟨_, rfl⟩, .inr ⟨ps ++ [x], hJx3⟩⟩
end Go.Proofs.Ytmkjejngnahpeaa

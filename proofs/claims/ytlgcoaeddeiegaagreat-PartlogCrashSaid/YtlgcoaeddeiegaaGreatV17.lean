/- The texts Pzh, Xc in one. -/
import Derived.Test.YtlgcoaeddeiegaaGreatV12
import Derived.Test.YtlgcoaeddeiegaaGreatV15
import Derived.Test.YtlgcoaeddeiegaaGreatV7
/- A log on a disk without fates, plainly: Append goes well. -/
namespace Go.Proofs.YtlgcoaeddeiegaaGreat
open Go Go.RowKit

structure Calm (log : ByteArray) (g : Lg) (d : Dk) : Prop where
  fates : d.fates = []
  files : ∀ f ∈ d.files, ∃ s ∈ g.segs, f.name = sname log s.1
  len : d.files.length ≤ g.segs.length
  sorted : (d.files.map (·.name)).Pairwise (· < ·)
  fit : LgFit log g d
  ok : LgOk g
  alive : g.dead = false
theorem fate_none {d : Dk} (h : d.fates = []) : d.fate = (0, 0) := by unfold Dk.fate; rw [h]
theorem sync_calm {d : Dk} {s : List UInt8} (hf : d.fates = []) (hn : nameOk s = true) {f : F0} (h : d.find s = some f) : (d.sync s).1 = 0 ∧ (d.sync s).2.fates = [] ∧ (d.sync s).2.files.length = d.files.length := by
  unfold Dk.sync
  rw [if_neg (by rw [hn]; simp), h]
  refine ⟨?_, ?_, ?_⟩
  · show d.fate.1 = 0
    rw [fate_none hf]
  · show d.fates.tail = []
    rw [hf]
    rfl
  · show (d.files.map _).length = _
    rw [List.length_map]
theorem append_calm {d : Dk} {s b : List UInt8} (hf : d.fates = []) (hn : nameOk s = true) {f : F0} (h : d.find s = some f) (hb : b.length + f.bytes.length ≤ 16777216) : (d.append s b).1 = 0 ∧ (d.append s b).2.fates = [] ∧ (d.append s b).2.files.length = d.files.length ∧ (d.append s b).2.files.map (·.name) = d.files.map (·.name) := by
  unfold Dk.append
  rw [if_neg (by rw [hn]; simp), h]
  dsimp only
  rw [if_neg (by omega)]
  refine ⟨?_, ?_, ?_, ?_⟩
  · show d.fate.1 = 0
    rw [fate_none hf]
  · show d.fates.tail = []
    rw [hf]
    rfl
  · show (d.files.map _).length = _
    rw [List.length_map]
  · show (d.files.map _).map _ = _
    rw [List.map_map]
    refine List.map_congr_left fun f _ => ?_
    show F0.name (if f.name = s then _ else f) = f.name
    split <;> rfl
theorem create_calm {d : Dk} {s : List UInt8} (hf : d.fates = []) (hn : nameOk s = true) (hnew : ∀ f ∈ d.files, f.name ≠ s) (hl : d.files.length < 4096) : (d.create s).1 = 0 ∧ (d.create s).2.fates = [] ∧ (d.create s).2.files = insF ⟨s, [], 0, true, false⟩ d.files := by
  have hat : d.at s = none := by
    unfold Dk.at
    exact List.find?_eq_none.2 (fun f hf => by simpa using hnew f hf)
  unfold Dk.create
  rw [if_neg (by rw [hn]; simp), if_neg (by rw [hat]; simp), if_neg (by omega), if_neg (by rw [fate_none hf]; simp)]
  refine ⟨rfl, ?_, rfl⟩
  show d.fates.tail = []
  rw [hf]
  rfl
theorem syncdir_calm {d : Dk} (hf : d.fates = []) : d.syncdir.1 = 0 ∧ d.syncdir.2.fates = [] ∧ d.syncdir.2.files = (d.files.filter (·.there)).map fun f => { f with named := true } := by
  unfold Dk.syncdir
  rw [if_neg (by rw [fate_none hf]; simp)]
  refine ⟨rfl, ?_, rfl⟩
  show d.fates.tail = []
  rw [hf]
  rfl
def Lg.putT (roll : Nat) (g : Lg) (l : List Rc) : Lg :=
  if roll ≤ (batsT g.lbs).length then ⟨g.segs, g.fin, [((g.fin : Int), l)], g.fin, g.dead⟩ else { g with lbs := g.lbs ++ [((g.fin : Int), l)] }
theorem names_of_map {d d' : Dk} {P : List UInt8 → Prop} (h : d'.files.map (·.name) = d.files.map (·.name)) (hP : ∀ f ∈ d.files, P f.name) : ∀ f ∈ d'.files, P f.name := fun f hf => by
  have h1 : f.name ∈ d'.files.map (·.name) := List.mem_map_of_mem hf
  rw [h] at h1
  obtain ⟨g, hg, e⟩ := List.mem_map.1 h1
  rw [← e]
  exact hP g hg
theorem add_calm {log : ByteArray} (hlog : loggedB log.data.toList = true) {g : Lg} {d : Dk} {l : List Rc} (h : Calm log g d) (hg : GoodB (g.fin : Int) l) (hb : (batsT g.lbs).length ≤ 16711680) :
    (g.addT log d l).1 = 0 ∧ (g.addT log d l).2.1 = { g with lbs := g.lbs ++ [((g.fin : Int), l)] } ∧ Calm log { g with lbs := g.lbs ++ [((g.fin : Int), l)] } (g.addT log d l).2.2 := by
  obtain ⟨f0, h1, h2⟩ := h.fit (g.lb, g.lbs) (by unfold Lg.segs; simp)
  have hn := sname_nameOk hlog g.lb
  have hz : (batchT (g.fin : Int) l).length ≤ 65536 := by rw [batchT_len]; exact hg.size
  have h2' : f0.bytes = batsT g.lbs := h2
  obtain ⟨a1, a2, a3, a4⟩ := append_calm (s := sname log g.lb) (b := batchT (g.fin : Int) l) h.fates hn h1 (by rw [h2']; omega)
  obtain ⟨k1, k2, k3⟩ := add_law hlog h.ok h.fit hg hn
  have e1 : (g.addT log d l).1 = 0 := a1
  have e2 : (g.addT log d l).2.1 = { g with lbs := g.lbs ++ [((g.fin : Int), l)] } := by
    unfold Lg.addT
    exact if_pos a1
  refine ⟨e1, e2, ?_⟩
  have k2' := k2 e1
  rw [e2] at k1 k2'
  refine ⟨a2, ?_, ?_, ?_, k2', k1, h.alive⟩
  · refine names_of_map (P := fun s => ∃ t ∈ Lg.segs { g with lbs := g.lbs ++ [((g.fin : Int), l)] }, s = sname log t.1) a4 (fun f hf => ?_)
    obtain ⟨t, ht, e⟩ := h.files f hf
    rcases List.mem_append.1 ht with ht | ht
    · exact ⟨t, List.mem_append_left _ ht, e⟩
    · rw [List.mem_singleton] at ht
      subst ht
      exact ⟨_, List.mem_append_right _ (List.mem_singleton.2 rfl), e⟩
  · have h3 := h.len
    show (d.append _ _).2.files.length ≤ (g.ini ++ [_]).length
    rw [a3]
    unfold Lg.segs at h3
    rw [List.length_append] at h3 ⊢
    exact h3
  · show ((d.append _ _).2.files.map _).Pairwise _
    rw [a4]
    exact h.sorted
theorem roll_calm {log : ByteArray} (hlog : loggedB log.data.toList = true) {g : Lg} {d : Dk} (h : Calm log g d) (hne : g.lbs ≠ []) (hfin : g.fin ≤ 9007199254740992) (hl : g.segs.length < 4096) :
    (g.rollT log d).1 = 0 ∧ (g.rollT log d).2.1 = ⟨g.segs, g.fin, [], g.fin, g.dead⟩ ∧ Calm log ⟨g.segs, g.fin, [], g.fin, g.dead⟩ (g.rollT log d).2.2 := by
  obtain ⟨f0, h1, h2⟩ := h.fit (g.lb, g.lbs) (by unfold Lg.segs; simp)
  obtain ⟨a1, a2, a3⟩ := sync_calm (s := sname log g.lb) h.fates (sname_nameOk hlog _) h1
  have hfl : g.lb < g.fin := by
    have := recsT_ne (h.ok.chain (g.lb, g.lbs) (by unfold Lg.segs; simp)).1 hne
    rw [recsT_len] at this
    unfold Lg.fin
    exact Nat.lt_add_of_pos_right this
  have hnew : ∀ f ∈ (d.sync (sname log g.lb)).2.files, f.name ≠ sname log g.fin := names_of_map (P := fun s => s ≠ sname log g.fin) (sync_names _ _) (fun f hf e => by
    obtain ⟨t, ht, e2⟩ := h.files f hf
    have h3 := sname_inj hlog (h.ok.chain t ht).2 hfin (e2.symm.trans e)
    rcases List.mem_append.1 ht with ht | ht
    · have := h.ok.last t ht
      omega
    · rw [List.mem_singleton] at ht
      subst ht
      exact Nat.lt_irrefl _ (h3 ▸ hfl))
  have hlen := h.len
  obtain ⟨b1, b2, b3⟩ := create_calm (s := sname log g.fin) a2 (sname_nameOk hlog _) hnew (by omega)
  obtain ⟨c1, c2, c3⟩ := syncdir_calm b2
  have hso : ((d.sync (sname log g.lb)).2.files.map (·.name)).Pairwise (· < ·) := by rw [sync_names]; exact h.sorted
  have hso2 := create_sorted (sname log g.fin) hso
  obtain ⟨k1, k2, k3⟩ := roll_law (log := log) h.ok h.fit hso2 hne hfin
  have e0 : g.rollT log d = (((d.sync (sname log g.lb)).2.create (sname log g.fin)).2.syncdir.1, ⟨g.segs, g.fin, [], g.fin, g.dead⟩, ((d.sync (sname log g.lb)).2.create (sname log g.fin)).2.syncdir.2) := by
    unfold Lg.rollT
    rw [if_neg (by rw [a1]; simp), if_neg (by rw [b1]; simp)]
  rw [e0] at k1 k2 k3 ⊢
  refine ⟨c1, rfl, c2, fun f hf => ?_, ?_, ?_, k2, k1, h.alive⟩
  · rw [c3, b3] at hf
    obtain ⟨y, hy, rfl⟩ := List.mem_map.1 hf
    rcases (mem_insF _ _ _).1 (List.mem_filter.1 hy).1 with rfl | hy
    · exact ⟨(g.fin, []), List.mem_append_right _ (List.mem_singleton.2 rfl), rfl⟩
    · obtain ⟨t, ht, e⟩ := names_of_map (P := fun s => ∃ t ∈ g.segs, s = sname log t.1) (sync_names _ _) (fun f hf => h.files f hf) y hy
      exact ⟨t, List.mem_append_left _ ht, e⟩
  · rw [c3, List.length_map, b3]
    have h5 := List.length_filter_le (fun f : F0 => f.there) (insF ⟨sname log g.fin, [], 0, true, false⟩ (d.sync (sname log g.lb)).2.files)
    rw [insF_length, a3] at h5
    show _ ≤ (g.segs ++ [(g.fin, [])]).length
    rw [List.length_append]
    show _ ≤ g.segs.length + 1
    omega
  · rw [c3, List.map_map]
    exact hso2.sublist (by rw [b3]; exact (List.filter_sublist (p := fun f : F0 => f.there)).map (fun f : F0 => f.name))
theorem appendT_calm {log : ByteArray} (hlog : loggedB log.data.toList = true) {roll : Nat} {g : Lg} {d : Dk} {l : List Rc} (h : Calm log g d) (hr : 1 ≤ roll ∧ roll ≤ 16711680) (hl : g.segs.length < 4096) (hf : (fitsT l).2 = 0) (hm : (g.fin : Int) + (l.length : Int) - 1 ≤ 9007199254740992) :
    g.appendT log roll d l = (0, g.putT roll l, (g.appendT log roll d l).2.2) ∧ Calm log (g.putT roll l) (g.appendT log roll d l).2.2 := by
  have hgood := (fits_good (base := (g.fin : Int)) hf (by omega) hm).1
  have hl1 := hgood.pos.1
  unfold Lg.appendT Lg.pushT Lg.putT
  rw [if_neg (by rw [h.alive]; simp), if_neg (by rw [hf]; simp), if_neg (by omega)]
  by_cases h3 : roll ≤ (batsT g.lbs).length
  · have hne : g.lbs ≠ [] := fun e => by
      rw [e] at h3
      have : roll ≤ 0 := h3
      omega
    obtain ⟨a1, a2, a3⟩ := roll_calm hlog h hne (by omega) hl
    have hf2 : Lg.fin ⟨g.segs, g.fin, [], g.fin, g.dead⟩ = g.fin := rfl
    obtain ⟨b1, b2, b3⟩ := add_calm hlog a3 (l := l) (by rw [hf2]; exact hgood) (by show (batsT []).length ≤ _; simp [batsT])
    rw [hf2] at b2 b3
    rw [if_pos h3, if_pos h3, if_neg (by rw [a1]; simp), a2, b1]
    refine ⟨?_, ?_⟩
    · unfold Lg.dies
      rw [if_pos rfl, b2]
      rfl
    · exact b3
  · obtain ⟨b1, b2, b3⟩ := add_calm hlog h (l := l) hgood (by omega)
    rw [if_neg h3, if_neg h3, b1]
    refine ⟨?_, b3⟩
    unfold Lg.dies
    rw [if_pos rfl, b2]
end Go.Proofs.YtlgcoaeddeiegaaGreat
/- A log of segments, plainly: what opening makes of what a crash left; a second crash. -/
namespace Go.Proofs.YtlgcoaeddeiegaaGreat
open Go Go.RowKit

def mendD (n : List UInt8) (k : Nat) (tl : List UInt8) (d : Dk) : Dk := if tl = [] then d else ((d.cut n (k : Int)).2.sync n).2
theorem FirmD.turn {d : Dk} (h : FirmD d) (s : List UInt8) (t : F0 → F0) (ht : ∀ f, f.there = true → f.named = true → f.lasts = f.bytes.length → (t f).there = true ∧ (t f).named = true ∧ (t f).lasts = (t f).bytes.length) : FirmD (d.next.turn s t) := by
  refine ⟨?_, fun f hf => ?_⟩
  · show d.fates.tail = []
    rw [h.1]
    rfl
  · obtain ⟨f0, h0, ⟨-, rfl⟩ | ⟨-, rfl⟩⟩ := mem_turn (d := d.next) hf
    · obtain ⟨h1, h2, h3⟩ := h.2 f0 h0
      exact ht f0 h1 h2 h3
    · exact h.2 _ h0
theorem firm_sync {d : Dk} (h : FirmD d) {s : List UInt8} (hn : nameOk s = true) {f : F0} (hf : d.find s = some f) : (d.sync s).1 = 0 ∧ FirmD (d.sync s).2 ∧ (∀ x, (d.sync s).2.find x = (d.find x).map fun f => { f with lasts := f.bytes.length }) ∧ (d.sync s).2.names = d.names := by
  have hfate := fate_none h.1
  have e : d.sync s = (0, d.next.turn s fun f => { f with lasts := f.bytes.length }) := by
    unfold Dk.sync
    rw [if_neg (by rw [hn]; simp), hf]
    dsimp only
    rw [hfate]
    rfl
  rw [e]
  refine ⟨rfl, h.turn s _ (fun f h1 h2 _ => ⟨h1, h2, rfl⟩), fun x => ?_, ?_⟩
  · by_cases hx : x = s
    · subst hx
      exact find_turnS (d := d.next) _ (fun _ => rfl) (fun _ => rfl)
    · rw [show (d.next.turn s fun f => { f with lasts := f.bytes.length }).find x = d.next.find x from find_turnO hx _ (fun _ => rfl)]
      show d.find x = _
      cases hfx : d.find x with
      | none => rfl
      | some f0 =>
        have hm : f0 ∈ d.files := by
          unfold Dk.find Dk.at at hfx
          exact List.mem_of_find?_eq_some (Option.filter_eq_some_iff.1 hfx).1
        obtain ⟨-, -, h3⟩ := h.2 f0 hm
        show some f0 = some { f0 with lasts := f0.bytes.length }
        rw [← h3]
  · unfold Dk.names
    show List.map _ (List.filter _ (d.files.map _)) = _
    rw [List.filter_map, List.map_map]
    have e1 : (d.files.filter ((fun f : F0 => f.there) ∘ fun f => if f.name = s then { f with lasts := f.bytes.length } else f)) = d.files.filter (·.there) := List.filter_congr fun f _ => by
      show (if f.name = s then _ else f : F0).there = f.there
      split <;> rfl
    rw [e1]
    refine List.map_congr_left fun f _ => ?_
    show (if f.name = s then _ else f : F0).name = f.name
    split <;> rfl
theorem firm_cut {d : Dk} (h : FirmD d) {s : List UInt8} (hn : nameOk s = true) {f : F0} (hf : d.find s = some f) {k : Nat} (hk : k ≤ f.bytes.length) : (d.cut s (k : Int)).1 = 0 ∧ FirmD (d.cut s (k : Int)).2 ∧ (d.cut s (k : Int)).2.find s = some { f with bytes := f.bytes.take k, lasts := min f.lasts k } ∧ (∀ x, x ≠ s → (d.cut s (k : Int)).2.find x = d.find x) ∧ (d.cut s (k : Int)).2.names = d.names := by
  have hfate := fate_none h.1
  have e : d.cut s (k : Int) = (0, d.next.turn s fun f => { f with bytes := f.bytes.take k, lasts := min f.lasts k }) := by
    unfold Dk.cut
    rw [if_neg (by rw [hn]; simp), hf]
    dsimp only
    rw [if_neg (by omega), hfate, if_neg (by simp)]
    rfl
  rw [e]
  refine ⟨rfl, h.turn s _ (fun f h1 h2 h3 => ⟨h1, h2, ?_⟩), ?_, fun x hx => ?_, ?_⟩
  · show min f.lasts k = (f.bytes.take k).length
    rw [List.length_take, h3]
    omega
  · rw [show (d.next.turn s fun f => { f with bytes := f.bytes.take k, lasts := min f.lasts k }).find s = (d.next.find s).map fun f => { f with bytes := f.bytes.take k, lasts := min f.lasts k } from find_turnS _ (fun _ => rfl) (fun _ => rfl)]
    show Option.map _ (d.find s) = _
    rw [hf]
    rfl
  · exact find_turnO (d := d.next) hx _ (fun _ => rfl)
  · unfold Dk.names
    show List.map _ (List.filter _ (d.files.map _)) = _
    rw [List.filter_map, List.map_map]
    have e1 : (d.files.filter ((fun f : F0 => f.there) ∘ fun f => if f.name = s then { f with bytes := f.bytes.take k, lasts := min f.lasts k } else f)) = d.files.filter (·.there) := List.filter_congr fun f _ => by
      show (if f.name = s then _ else f : F0).there = f.there
      split <;> rfl
    rw [e1]
    refine List.map_congr_left fun f _ => ?_
    show (if f.name = s then _ else f : F0).name = f.name
    split <;> rfl
section
variable {log : ByteArray} {g : Lg} {d : Dk} {tl : List UInt8}
theorem OldI.namesOf_eq {d' : Dk} (h : OldI log g d tl) (e : d'.names = d.names) : d'.namesOf log = g.segs.map fun s => sname log s.1 := by
  have := h.names
  unfold Dk.namesOf at this ⊢
  rw [e]
  exact this
theorem OldI.mend (h : OldI log g d tl) (hlog : loggedB log.data.toList = true) :
    (d.cut (sname log g.lb) ((batsT g.lbs).length : Int)).1 = 0 ∧ ((d.cut (sname log g.lb) ((batsT g.lbs).length : Int)).2.sync (sname log g.lb)).1 = 0 ∧ OldI log g (mendD (sname log g.lb) (batsT g.lbs).length tl d) [] := by
  obtain ⟨f, hf, hb⟩ := h.last
  have hn := sname_nameOk hlog g.lb
  obtain ⟨c1, c2, c3, c4, c5⟩ := firm_cut h.firm hn hf (k := (batsT g.lbs).length) (by rw [hb, List.length_append]; omega)
  obtain ⟨s1, s2, s3, s4⟩ := firm_sync c2 hn c3
  refine ⟨c1, s1, ?_⟩
  unfold mendD
  split
  · rename_i ht
    subst ht
    exact h
  · refine ⟨h.ok, h.namesOf_eq (s4.trans c5), fun s hs => ?_, ?_, .inl rfl, s2, h.alive, h.stands⟩
    · obtain ⟨f', hf', hb'⟩ := h.ini s hs
      refine ⟨{ f' with lasts := f'.bytes.length }, ?_, hb'⟩
      rw [s3, c4 _ (h.ok.names hlog s hs), hf']
      rfl
    · refine ⟨{ f with bytes := f.bytes.take (batsT g.lbs).length, lasts := (f.bytes.take (batsT g.lbs).length).length }, ?_, ?_⟩
      · rw [s3, c3]
        rfl
      · show f.bytes.take _ = _
        rw [hb, List.take_left, List.append_nil]
theorem OldI.sync (h : OldI log g d []) (hlog : loggedB log.data.toList = true) : (d.sync (sname log g.lb)).1 = 0 ∧ OldI log g (d.sync (sname log g.lb)).2 [] := by
  obtain ⟨f, hf, hb⟩ := h.last
  obtain ⟨s1, s2, s3, s4⟩ := firm_sync h.firm (sname_nameOk hlog g.lb) hf
  refine ⟨s1, h.ok, h.namesOf_eq s4, fun s hs => ?_, ?_, .inl rfl, s2, h.alive, h.stands⟩
  · obtain ⟨f', hf', hb'⟩ := h.ini s hs
    refine ⟨{ f' with lasts := f'.bytes.length }, ?_, hb'⟩
    rw [s3, hf']
    rfl
  · refine ⟨{ f with lasts := f.bytes.length }, ?_, hb⟩
    rw [s3, hf]
    rfl
theorem OldI.fit (h : OldI log g d []) : LgFit log g d := fun s hs => by
  rcases List.mem_append.1 hs with hs | hs
  · exact h.ini s hs
  · rw [List.mem_singleton] at hs
    subst hs
    obtain ⟨f, hf, hb⟩ := h.last
    exact ⟨f, hf, by rw [hb, List.append_nil]⟩
theorem firm_crashD {d : Dk} (h : FirmD d) (ps : List Int) : (d.crash ps).files = d.files := by
  have key : ∀ (l acc : List F0), (∀ f ∈ l, f.there = true ∧ f.named = true ∧ f.lasts = f.bytes.length) → l.foldl crashStep (acc, ps) = (acc ++ l, ps) := by
    intro l
    induction l with
    | nil => intro acc _; simp
    | cons f r ih =>
      intro acc hl
      obtain ⟨h1, h2, h3⟩ := hl f (by simp)
      have e : crashStep (acc, ps) f = (acc ++ [f], ps) := by
        unfold crashStep keepP moreP
        rw [h1, h2]
        simp only [Bool.and_self, if_true, Bool.true_and]
        rw [if_neg (by simp), if_neg (by simp [h3])]
        simp only [cutF, Nat.add_zero, h3, List.take_length]
        obtain ⟨a, b, c, t, n⟩ := f
        simp only at h1 h2 h3
        rw [h1, h2, h3]
      rw [List.foldl_cons, e, ih _ (fun g hg => hl g (by simp [hg])), List.append_assoc]
      rfl
  show (crashTo d.files ps).1 = _
  unfold crashTo
  rw [key d.files [] h.2]
  rfl
theorem OldI.again (h : OldI log g d []) (ps : List Int) : OldI log g (d.crash ps) [] := by
  have e := firm_crashD h.firm ps
  have e1 : (d.crash ps).names = d.names := by unfold Dk.names; rw [e]
  have e2 : ∀ x, (d.crash ps).find x = d.find x := fun x => by unfold Dk.find Dk.at; rw [e]
  exact ⟨h.ok, h.namesOf_eq e1, fun s hs => by rw [e2]; exact h.ini s hs, by rw [e2]; exact h.last, .inl rfl, ⟨rfl, fun f hf => h.firm.2 f (e ▸ hf)⟩, h.alive, h.stands⟩
end
end Go.Proofs.YtlgcoaeddeiegaaGreat

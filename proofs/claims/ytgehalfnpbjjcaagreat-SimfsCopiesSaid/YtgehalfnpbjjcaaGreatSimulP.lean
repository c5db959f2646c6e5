/- simfs and the document's, side by side, as plain functions: what one call keeps alike. -/
import Derived.Test.YtgehalfnpbjjcaaGreatStepP
import Derived.Test.YtgehalfnpbjjcaaGreatRefK
namespace Go.Proofs.YtgehalfnpbjjcaaGreat
open Go Go.RowKit
abbrev SortR (l : RDir) : Prop := l.Pairwise fun p q => p.1.data.toList < q.1.data.toList
theorem bless_iff {a b : ByteArray} : bless a b = true ↔ a.data.toList < b.data.toList := by unfold bless; simp
theorem bytes_inj {a b : ByteArray} (h : a.data.toList = b.data.toList) : a = b := by rw [← bytes_back a, ← bytes_back b, h]
theorem not_bless {a b : ByteArray} (h : bless a b = false) (hne : a ≠ b) : b.data.toList < a.data.toList := by
  have h1 : ¬ a.data.toList < b.data.toList := fun h9 => by rw [bless_iff.2 h9] at h; cases h
  exact Std.lt_of_le_of_ne (List.not_lt.1 h1) (fun e => hne (bytes_inj e.symm))
theorem dget_cons {β : Type} (p : ByteArray × β) (l : List (ByteArray × β)) (n : ByteArray) : dget (p :: l) n = if p.1 = n then some p.2 else dget l n := by
  unfold dget
  rw [List.find?_cons]
  by_cases h : p.1 = n
  · simp [h]
  · simp [h]
theorem dget_keep {p : ByteArray × Int} {n m : ByteArray} {l : RDir} (h : m ≠ n) : dget ((if p.1 = n then [] else [p]) ++ l) m = if p.1 = m then some p.2 else dget l m := by
  by_cases e : p.1 = n
  · rw [if_pos e, List.nil_append, if_neg (fun e2 => h (e2.symm.trans e))]
  · rw [if_neg e, List.singleton_append, dget_cons]
theorem rputGo_get {n : ByteArray} {f : Int} {m : ByteArray} : ∀ (l : RDir) (b : Bool), dget (rputGo n f l b) m = if m = n then (if b then none else some f) else dget l m
  | [], true => by show dget [] m = _; split <;> rfl
  | [], false => by
    show dget [(n, f)] m = _
    rw [dget_cons]
    by_cases h : n = m
    · rw [if_pos h, if_pos h.symm]; rfl
    · rw [if_neg h, if_neg (fun e => h e.symm)]
  | p :: l, true => by
    have ih := rputGo_get (n := n) (f := f) (m := m) l true
    show dget ((if p.1 = n then [] else [p]) ++ rputGo n f l true) m = _
    by_cases h : m = n
    · rw [if_pos h] at ih ⊢
      by_cases e : p.1 = n
      · rw [if_pos e, List.nil_append]; exact ih
      · rw [if_neg e, List.singleton_append, dget_cons, if_neg (fun e2 => e (e2.trans h))]; exact ih
    · rw [if_neg h] at ih ⊢
      rw [dget_keep h, ih, dget_cons]
  | p :: l, false => by
    show dget (if bless p.1 n then _ else _) m = _
    by_cases hb : bless p.1 n = true
    · rw [if_pos hb]
      have ih := rputGo_get (n := n) (f := f) (m := m) l false
      have hpn : p.1 ≠ n := fun e => by
        have := bless_iff.1 hb
        rw [e] at this
        exact List.lt_irrefl _ this
      by_cases h : m = n
      · rw [if_pos h] at ih ⊢
        rw [if_neg hpn, List.singleton_append, dget_cons, if_neg (fun e2 => hpn (e2.trans h))]
        exact ih
      · rw [if_neg h] at ih ⊢
        rw [dget_keep h, ih, dget_cons]
    · rw [if_neg hb, dget_cons]
      have ih := rputGo_get (n := n) (f := f) (m := m) l true
      by_cases h : m = n
      · rw [if_pos h.symm, if_pos h]; rfl
      · rw [if_neg (fun e => h e.symm), if_neg h, dget_keep h, dget_cons]
        rw [if_neg h] at ih
        rw [ih]
theorem rputGo_sub {n : ByteArray} {f : Int} : ∀ (l : RDir), (rputGo n f l true).Sublist l
  | [] => List.Sublist.refl _
  | p :: l => by
    show ((if p.1 = n then [] else [p]) ++ rputGo n f l true).Sublist (p :: l)
    split
    · exact (rputGo_sub l).cons _
    · exact (rputGo_sub l).cons_cons _
theorem rputGo_sort {n : ByteArray} {f : Int} : ∀ {l : RDir} (b : Bool), SortR l → SortR (rputGo n f l b)
  | l, true, h => h.sublist (rputGo_sub l)
  | [], false, _ => by show SortR [(n, f)]; exact List.pairwise_singleton _ _
  | p :: l, false, h => by
    obtain ⟨h1, h2⟩ := List.pairwise_cons.1 h
    show SortR (if bless p.1 n then _ else _)
    by_cases hb : bless p.1 n = true
    · rw [if_pos hb]
      have hpl := bless_iff.1 hb
      have hpn : p.1 ≠ n := fun e => by
        rw [e] at hpl
        exact List.lt_irrefl _ hpl
      rw [if_neg hpn, List.singleton_append]
      refine List.pairwise_cons.2 ⟨fun q hq => ?_, rputGo_sort false h2⟩
      rcases mem_rputGo hq with hq | ⟨rfl, _⟩
      · exact h1 q hq
      · exact hpl
    · rw [if_neg hb]
      have hge : ∀ q ∈ l, n.data.toList < q.1.data.toList := fun q hq => by
        by_cases e : p.1 = n
        · rw [← e]; exact h1 q hq
        · exact List.lt_trans (not_bless (by simpa using hb) e) (h1 q hq)
      refine List.pairwise_cons.2 ⟨fun q hq => ?_, ?_⟩
      · by_cases e : p.1 = n
        · rw [if_pos e, List.nil_append] at hq
          exact hge q ((rputGo_sub l).subset hq)
        · rw [if_neg e, List.singleton_append] at hq
          rcases List.mem_cons.1 hq with rfl | hq
          · exact not_bless (by simpa using hb) e
          · exact hge q ((rputGo_sub l).subset hq)
      · by_cases e : p.1 = n
        · rw [if_pos e, List.nil_append]; exact h2.sublist (rputGo_sub l)
        · rw [if_neg e, List.singleton_append]
          exact List.pairwise_cons.2 ⟨fun q hq => h1 q ((rputGo_sub l).subset hq), h2.sublist (rputGo_sub l)⟩
/-- The block of a file of the document's. -/
def blk (ps : List Nat) (i : Int) : Nat := ps.getD i.toNat 0
def InR (ps : List Nat) (i : Int) : Prop := 0 ≤ i ∧ i.toNat < ps.length
theorem blk_grow {ps : List Nat} {i : Int} (h : InR ps i) (p : Nat) : blk (ps ++ [p]) i = blk ps i := by
  unfold blk
  rw [List.getD_eq_getElem?_getD, List.getD_eq_getElem?_getD, List.getElem?_append_left h.2]
theorem InR.grow {ps : List Nat} {i : Int} (h : InR ps i) (p : Nat) : InR (ps ++ [p]) i := ⟨h.1, by rw [List.length_append]; have := h.2; omega⟩
theorem blk_at {ps : List Nat} {i : Int} (h : InR ps i) : ps[i.toNat]? = some (blk ps i) := by
  unfold blk
  rw [List.getD_eq_getElem?_getD, List.getElem?_eq_getElem h.2]
  rfl
theorem blk_inj {ps : List Nat} (hn : ps.Nodup) {i j : Int} (hi : InR ps i) (hj : InR ps j) (h : blk ps i = blk ps j) : i = j := by
  have h1 := blk_at hi
  have h2 := blk_at hj
  rw [h, ← h2] at h1
  have h3 := (List.getElem?_inj hi.2 hn).1 h1
  have := hi.1
  have := hj.1
  omega
/-- Directories that say the same. -/
structure DirS (ps : List Nat) (d : Dir) (l : RDir) : Prop where
  nd : (d.map Prod.fst).Nodup
  so : SortR l
  inr : ∀ q ∈ l, InR ps q.2
  get : ∀ n, dget d n = (dget l n).map (blk ps)
section
variable {ps : List Nat} {d : Dir} {l : RDir}
theorem DirS.del (h : DirS ps d l) (n : ByteArray) : DirS ps (ddel d n) (rput l n (-1)) where
  nd := ddel_nodup h.nd n
  so := rputGo_sort _ h.so
  inr := fun q hq => by
    rcases mem_rput hq with hq | ⟨_, h0⟩
    · exact h.inr q hq
    · omega
  get := fun m => by
    unfold rput
    rw [rputGo_get]
    by_cases e : m = n
    · subst e
      rw [dget_del_self, if_pos rfl]
      rfl
    · rw [dget_del_ne h.nd e, if_neg e]
      exact h.get m
theorem DirS.put (h : DirS ps d l) (n : ByteArray) {i : Int} (hi : InR ps i) : DirS ps (dput d n (blk ps i)) (rput l n i) where
  nd := dput_nodup h.nd n _
  so := rputGo_sort _ h.so
  inr := fun q hq => by
    rcases mem_rput hq with hq | ⟨rfl, _⟩
    · exact h.inr q hq
    · exact hi
  get := fun m => by
    unfold rput
    rw [rputGo_get, show decide (i < 0) = false from decide_eq_false (by have := hi.1; omega)]
    by_cases e : m = n
    · subst e
      rw [dget_put_self h.nd, if_pos rfl]
      rfl
    · rw [dget_put_ne h.nd e, if_neg e]
      exact h.get m
theorem dget_inr (h : DirS ps d l) {n : ByteArray} {i : Int} (hg : dget l n = some i) : InR ps i := h.inr _ (mem_of_dget hg)
theorem DirS.grow (h : DirS ps d l) (p : Nat) : DirS (ps ++ [p]) d l where
  nd := h.nd
  so := h.so
  inr := fun q hq => (h.inr q hq).grow p
  get := fun n => by
    rw [h.get n]
    cases hg : dget l n with
    | none => rfl
    | some i => show some _ = some _; rw [blk_grow (dget_inr h hg)]
/-- A change, with its block. -/
def cOf (ps : List Nat) (r : RChg) : Chg := if r.kind = 1 then ⟨r.a, ByteArray.empty, some (blk ps r.which)⟩ else if r.kind = 2 then ⟨r.a, ByteArray.empty, none⟩ else ⟨r.b, r.a, some (blk ps r.which)⟩
def RcI (ps : List Nat) (r : RChg) : Prop := (r.kind ≠ 2 → InR ps r.which) ∧ (r.kind ≠ 1 → r.kind ≠ 2 → r.a ≠ ByteArray.empty)
theorem cOf_grow {r : RChg} (h : RcI ps r) (p : Nat) : cOf (ps ++ [p]) r = cOf ps r := by
  unfold cOf
  split
  · rename_i h1
    rw [blk_grow (h.1 (by omega))]
  · split
    · rfl
    · rename_i h2
      rw [blk_grow (h.1 h2)]
theorem DirS.app (h : DirS ps d l) {r : RChg} (hr : RcI ps r) : DirS ps (doF d (cOf ps r)) (rapply l r) := by
  unfold doF cOf rapply
  by_cases h1 : r.kind = 1
  · rw [if_pos h1, if_pos h1]
    exact h.put _ (hr.1 (by omega))
  · rw [if_neg h1, if_neg h1]
    by_cases h2 : r.kind = 2
    · rw [if_pos h2, if_pos h2]
      exact h.del _
    · rw [if_neg h2, if_neg h2]
      simp only
      rw [if_neg (hr.2 h1 h2)]
      exact (h.del _).put _ (hr.1 h2)
theorem DirS.all : ∀ {cs : List RChg} {d : Dir} {l : RDir}, DirS ps d l → (∀ r ∈ cs, RcI ps r) → DirS ps (doAll d (cs.map (cOf ps))) (cs.foldl rapply l)
  | [], _, _, h, _ => h
  | r :: cs, _, _, h, hr => DirS.all (cs := cs) (h.app (hr r (by simp))) (fun x hx => hr x (by simp [hx]))
theorem nodup_of_keys {β : Type} {l : List (ByteArray × β)} (h : (l.map Prod.fst).Nodup) : l.Nodup := (List.pairwise_map.1 h).imp (fun hab e => hab (congrArg Prod.fst e))
theorem sortR_keys (h : SortR l) : (l.map Prod.fst).Nodup := by
  refine List.pairwise_map.2 (h.imp fun {a b} hab e => ?_)
  rw [e] at hab
  exact List.lt_irrefl _ hab
theorem DirS.perm (h : DirS ps d l) : d.Perm (l.map fun q => (q.1, blk ps q.2)) := by
  have hn2 : ((l.map fun q => (q.1, blk ps q.2)).map Prod.fst).Nodup := by
    rw [List.map_map]
    exact sortR_keys h.so
  refine (List.perm_ext_iff_of_nodup (nodup_of_keys h.nd) (nodup_of_keys hn2)).2 fun x => ?_
  obtain ⟨n, p⟩ := x
  constructor
  · intro hx
    have h1 := h.get n
    rw [dget_mem h.nd hx] at h1
    cases hg : dget l n with
    | none => rw [hg] at h1; cases h1
    | some i =>
      rw [hg] at h1
      injection h1 with h1
      subst h1
      exact List.mem_map.2 ⟨_, mem_of_dget hg, rfl⟩
  · intro hx
    obtain ⟨q, hq, e⟩ := List.mem_map.1 hx
    injection e with e1 e2
    subst e1 e2
    have h1 := h.get q.1
    rw [dget_mem (v := q.2) (sortR_keys h.so) hq] at h1
    exact mem_of_dget h1
theorem sortN_sorted (h : SortR l) : sortN (l.map Prod.fst) = l.map Prod.fst := by
  unfold sortN
  rw [List.mergeSort_of_pairwise]
  · rw [List.map_map, List.map_map]
    refine List.map_congr_left fun q _ => bytes_back _
  · rw [List.map_map]
    refine List.pairwise_map.2 (h.imp fun {a b} hab => ?_)
    show leB a.1.data.toList b.1.data.toList = true
    unfold leB
    simp only [decide_eq_true_eq]
    exact Std.le_of_lt hab
theorem DirS.names (h : DirS ps d l) : sortN (d.map Prod.fst) = l.map Prod.fst := by
  have h1 := h.perm.map Prod.fst
  rw [List.map_map] at h1
  rw [sortN_perm h1]
  exact sortN_sorted h.so
theorem DirS.ptrs (h : DirS ps d l) : ptrsF d = l.map fun q => blk ps q.2 := by
  unfold ptrsF
  rw [h.names, List.map_map]
  refine List.map_congr_left fun q hq => ?_
  show (dget d q.1).getD 0 = _
  rw [h.get, dget_mem (v := q.2) (sortR_keys h.so) hq]
  rfl
end
/-- Files that are the same. -/
structure FilS (ps : List Nat) (f : Nat → Option Fil) (fs : List RFil) : Prop where
  len : ps.length = fs.length
  nd : ps.Nodup
  at_ : ∀ i : Nat, ∀ x, fs[i]? = some x → f (blk ps i) = some ⟨x.b, x.safe.toNat⟩ ∧ 0 ≤ x.safe ∧ x.safe ≤ x.b.length
section
variable {ps : List Nat} {f : Nat → Option Fil} {fs : List RFil}
theorem FilS.inr (h : FilS ps f fs) {i : Int} (hi : InR ps i) : ∃ x, fs[i.toNat]? = some x ∧ f (blk ps i) = some ⟨x.b, x.safe.toNat⟩ ∧ 0 ≤ x.safe ∧ x.safe ≤ x.b.length := by
  obtain ⟨x, hx⟩ : ∃ x, fs[i.toNat]? = some x := ⟨_, List.getElem?_eq_getElem (by have := hi.2; rw [h.len] at this; exact this)⟩
  have h1 := h.at_ i.toNat x hx
  rw [show ((i.toNat : Nat) : Int) = i by have := hi.1; omega] at h1
  exact ⟨x, hx, h1⟩
theorem FilS.set (h : FilS ps f fs) {i : Int} (hi : InR ps i) {y : RFil} (hy : 0 ≤ y.safe ∧ y.safe ≤ y.b.length) : FilS ps (putFil f (blk ps i) ⟨y.b, y.safe.toNat⟩) (fs.set i.toNat y) where
  len := by rw [List.length_set]; exact h.len
  nd := h.nd
  at_ := fun k x hx => by
    by_cases e : k = i.toNat
    · subst e
      have hk : i.toNat < fs.length := by have := hi.2; rw [h.len] at this; exact this
      rw [List.getElem?_set_self hk] at hx
      injection hx with hx
      subst hx
      rw [show ((i.toNat : Nat) : Int) = i by have := hi.1; omega]
      refine ⟨?_, hy⟩
      unfold putFil
      rw [if_pos rfl]
    · rw [List.getElem?_set_ne (fun e2 => e e2.symm)] at hx
      obtain ⟨h1, h2⟩ := h.at_ k x hx
      refine ⟨?_, h2⟩
      unfold putFil
      rw [if_neg, h1]
      intro e2
      have hk := (List.getElem?_eq_some_iff.1 hx).1
      have := blk_inj h.nd (i := (k : Int)) (j := i) ⟨by omega, by rw [h.len]; simpa using hk⟩ hi e2
      omega
theorem FilS.add (h : FilS ps f fs) {p : Nat} (hp : f p = none) (x0 : RFil) (h0 : 0 ≤ x0.safe ∧ x0.safe ≤ x0.b.length) : FilS (ps ++ [p]) (putFil f p ⟨x0.b, x0.safe.toNat⟩) (fs ++ [x0]) where
  len := by simp [h.len]
  nd := by
    refine List.nodup_append.2 ⟨h.nd, by simp, ?_⟩
    intro a ha b hb e
    simp only [List.mem_singleton] at hb
    subst hb e
    obtain ⟨k, hk, rfl⟩ := List.mem_iff_getElem.1 ha
    obtain ⟨x, _, hx, _⟩ := h.inr (i := (k : Int)) ⟨by omega, by simpa using hk⟩
    have h1 : blk ps (k : Int) = ps[k] := by
      have := blk_at (ps := ps) (i := (k : Int)) ⟨by omega, by simpa using hk⟩
      rw [show ((k : Int).toNat) = k by omega, List.getElem?_eq_getElem hk] at this
      injection this with this
      exact this.symm
    rw [h1, hp] at hx
    cases hx
  at_ := fun k x hx => by
    by_cases e : k < fs.length
    · rw [List.getElem?_append_left e] at hx
      obtain ⟨h1, h2⟩ := h.at_ k x hx
      have hin : InR ps (k : Int) := ⟨by omega, by rw [h.len]; simpa using e⟩
      rw [blk_grow hin]
      refine ⟨?_, h2⟩
      unfold putFil
      rw [if_neg, h1]
      intro e2
      rw [e2, hp] at h1
      cases h1
    · have e' : k = fs.length := by
        have := (List.getElem?_eq_some_iff.1 hx).1
        rw [List.length_append] at this
        simp at this
        omega
      subst e'
      simp at hx
      subst hx
      have h1 : blk (ps ++ [p]) (fs.length : Int) = p := by
        unfold blk
        rw [show ((fs.length : Int).toNat) = fs.length by omega, ← h.len, List.getD_eq_getElem?_getD]
        simp
      rw [h1]
      refine ⟨?_, h0⟩
      unfold putFil
      rw [if_pos rfl]
end
/-- Both file systems say the same. -/
structure Sim (ps : List Nat) (st : FSt) (rs : RSt) : Prop where
  room : rs.room = st.room
  down : rs.down = st.down
  steps : rs.count = st.steps
  arm1 : st.armed = true → rs.armed = st.left ∧ 0 ≤ st.left ∧ st.left < 9223372036854775808
  arm0 : st.armed = false → rs.armed = -1
  files : FilS ps st.files rs.files
  seen : DirS ps st.seen rs.seen
  safe : DirS ps st.safe rs.safe
  chg : st.chg = rs.chg.map (cOf ps)
  chgI : ∀ r ∈ rs.chg, RcI ps r
  all : rs.seen = rs.chg.foldl rapply rs.safe
section
variable {ps : List Nat} {st : FSt} {rs : RSt}
theorem Sim.ahead (h : Sim ps st rs) (n : ByteArray) : rahead rs n = namedF st n := by
  unfold rahead namedF
  rw [h.down]
theorem rfind_some {l : RDir} {n : ByteArray} {i : Int} (h : dget l n = some i) : rfind l n = i := by unfold rfind; rw [h]
theorem rfind_none {l : RDir} {n : ByteArray} (h : dget l n = none) : rfind l n = -1 := by unfold rfind; rw [h]
/-- The name's file, on both sides. -/
theorem Sim.find (h : Sim ps st rs) (n : ByteArray) : (rthere rs n = 0 ∧ findF st n = (0, some (blk ps (rfind rs.seen n))) ∧ InR ps (rfind rs.seen n) ∧ rahead rs n = 0) ∨ (rthere rs n = 5 ∧ findF st n = (5, none) ∧ rfind rs.seen n = -1 ∧ rahead rs n = 0) ∨ (rthere rs n ≠ 0 ∧ rthere rs n ≠ 5 ∧ findF st n = (rthere rs n, none) ∧ rahead rs n = rthere rs n) := by
  have hg := h.seen.get n
  unfold rthere rahead findF
  rw [h.down]
  cases st.down with
  | true => exact .inr (.inr (by simp))
  | false =>
    cases nameR n with
    | false => exact .inr (.inr (by simp))
    | true =>
      cases hd : dget rs.seen n with
      | none =>
        rw [hd] at hg
        rw [rfind_none hd, hg]
        exact .inr (.inl (by simp))
      | some i =>
        rw [hd] at hg
        have hin := dget_inr h.seen hd
        rw [rfind_some hd, hg]
        refine .inl ?_
        have h0 : ¬ i < 0 := by have := hin.1; omega
        simp [h0, hin]
/-- One step more. -/
def rtick (rs : RSt) : RSt := { rs with armed := if rs.armed > 0 then wrap64 (rs.armed - 1) else rs.armed, count := wrap64 (rs.count + 1) }
theorem Sim.like (h : Sim ps st rs) {st' : FSt} {rs' : RSt} (h1 : st'.room = st.room) (h2 : st'.files = st.files) (h3 : st'.seen = st.seen) (h4 : st'.safe = st.safe) (h5 : st'.chg = st.chg) (g1 : rs'.room = rs.room) (g2 : rs'.files = rs.files) (g3 : rs'.seen = rs.seen) (g4 : rs'.safe = rs.safe) (g5 : rs'.chg = rs.chg)
    (hd : rs'.down = st'.down) (hs : rs'.count = st'.steps) (a1 : st'.armed = true → rs'.armed = st'.left ∧ 0 ≤ st'.left ∧ st'.left < 9223372036854775808) (a0 : st'.armed = false → rs'.armed = -1) : Sim ps st' rs' where
  room := by rw [g1, h1]; exact h.room
  down := hd
  steps := hs
  arm1 := a1
  arm0 := a0
  files := by rw [h2, g2]; exact h.files
  seen := by rw [h3, g3]; exact h.seen
  safe := by rw [h4, g4]; exact h.safe
  chg := by rw [h5, g5]; exact h.chg
  chgI := by rw [g5]; exact h.chgI
  all := by rw [g3, g4, g5]; exact h.all
theorem Sim.fall (h : Sim ps st rs) : Sim ps { st with down := true } { rs with down := true } := h.like rfl rfl rfl rfl rfl rfl rfl rfl rfl rfl rfl h.steps h.arm1 h.arm0
theorem Sim.ticked (h : Sim ps st rs) (hl : ¬ (st.armed = true ∧ st.left = 0)) : Sim ps (tick st) (rtick rs) := by
  refine h.like rfl rfl rfl rfl rfl rfl rfl rfl rfl rfl h.down ?_ ?_ ?_
  · show wrap64 (rs.count + 1) = wrap64 (st.steps + 1)
    rw [h.steps]
  · intro ha
    obtain ⟨h1, h2, h3⟩ := h.arm1 ha
    have h4 : st.left ≠ 0 := fun e => hl ⟨ha, e⟩
    have e1 : wrap64 (st.left - 1) = st.left - 1 := by rw [← IntWalk.i64_left]; exact IntWalk.i64_in _ (by omega)
    show (if rs.armed > 0 then wrap64 (rs.armed - 1) else rs.armed) = wrap64 (st.left - 1) ∧ 0 ≤ wrap64 (st.left - 1) ∧ wrap64 (st.left - 1) < _
    rw [h1, if_pos (by omega), e1]
    exact ⟨rfl, by omega, by omega⟩
  · intro ha
    have h1 := h.arm0 ha
    show (if rs.armed > 0 then wrap64 (rs.armed - 1) else rs.armed) = -1
    rw [h1, if_neg (by decide)]
theorem Sim.armed0 (h : Sim ps st rs) : (st.armed = true ∧ st.left = 0) ↔ rs.armed = 0 := by
  constructor
  · rintro ⟨h1, h2⟩
    rw [(h.arm1 h1).1, h2]
  · intro h1
    cases ha : st.armed with
    | true => exact ⟨rfl, by rw [← (h.arm1 ha).1]; exact h1⟩
    | false => rw [h.arm0 ha] at h1; cases h1
theorem Sim.go (h : Sim ps st rs) {f : FSt → FSt} {g : RSt → RSt} (hf : Sim ps (tick st) (rtick rs) → ∃ ps', Sim ps' (f (tick st)) (g (rtick rs))) : ∃ ps', Sim ps' (goF st f).1 (rstepF rs g).1 := by
  unfold goF rstepF
  by_cases h1 : st.armed = true ∧ st.left = 0
  · rw [if_pos h1, if_pos (h.armed0.1 h1)]
    exact ⟨ps, h.fall⟩
  · rw [if_neg h1, if_neg (fun e => h1 (h.armed0.2 e))]
    exact hf (h.ticked h1)
theorem Sim.change (h : Sim ps st rs) {r : RChg} (hr : RcI ps r) : Sim ps (chgF st (cOf ps r)) (rchange rs r) where
  room := h.room
  down := h.down
  steps := h.steps
  arm1 := h.arm1
  arm0 := h.arm0
  files := h.files
  seen := h.seen.app hr
  safe := h.safe
  chg := by show st.chg ++ [cOf ps r] = (rs.chg ++ [r]).map _; rw [h.chg]; simp
  chgI := fun x hx => by
    rcases List.mem_append.1 hx with hx | hx
    · exact h.chgI x hx
    · simp at hx; subst hx; exact hr
  all := by
    show rapply rs.seen r = (rs.chg ++ [r]).foldl rapply rs.safe
    rw [List.foldl_append, ← h.all]
    rfl
theorem Sim.addFile (h : Sim ps st rs) {p : Nat} (hp : st.files p = none) : Sim (ps ++ [p]) { st with files := putFil st.files p ⟨[], 0⟩ } { rs with files := rs.files ++ [⟨[], 0⟩] } where
  room := h.room
  down := h.down
  steps := h.steps
  arm1 := h.arm1
  arm0 := h.arm0
  files := h.files.add hp ⟨[], 0⟩ ⟨Int.le_refl _, Int.le_refl _⟩
  seen := h.seen.grow p
  safe := h.safe.grow p
  chg := by
    show st.chg = _
    rw [h.chg]
    exact List.map_congr_left fun r hr => (cOf_grow (h.chgI r hr) p).symm
  chgI := fun r hr => ⟨fun h2 => ((h.chgI r hr).1 h2).grow p, (h.chgI r hr).2⟩
  all := h.all
theorem Sim.setFile (h : Sim ps st rs) {i : Int} (hi : InR ps i) {y : RFil} (hy : 0 ≤ y.safe ∧ y.safe ≤ y.b.length) : Sim ps { st with files := putFil st.files (blk ps i) ⟨y.b, y.safe.toNat⟩ } { rs with files := rs.files.set i.toNat y } := ⟨h.room, h.down, h.steps, h.arm1, h.arm0, h.files.set hi hy, h.seen, h.safe, h.chg, h.chgI, h.all⟩
theorem Sim.used (h : Sim ps st rs) : usedF st = rused rs := by
  unfold usedF rused
  rw [(h.seen.perm.map fun p => lenF st.files p.2).sum_nat, List.map_map]
  congr 1
  refine List.map_congr_left fun q hq => ?_
  show lenF st.files (blk ps q.2) = rlen rs q.2
  obtain ⟨x, h1, h2, _⟩ := h.files.inr (h.seen.inr q hq)
  unfold lenF rlen
  rw [h1, h2]
theorem Sim.list (h : Sim ps st rs) : listF st = rlist rs := by
  unfold listF rlist
  rw [h.down, h.seen.names]
theorem Sim.read (h : Sim ps st rs) (n : ByteArray) : readF st n = rread rs n := by
  unfold readF rread
  rcases h.find n with ⟨h1, h2, h3, _⟩ | ⟨h1, h2, _, _⟩ | ⟨h1, h1', h2, _⟩
  · rw [h1, h2]
    obtain ⟨x, h4, h5, _⟩ := h.files.inr h3
    simp only [ne_eq, not_true_eq_false, if_false]
    rw [h4]
    unfold bytesF
    rw [h5]
  · rw [h1, h2]
    simp
  · rw [h2, if_pos h1]
    split
    · rename_i e; simp at e
    · rename_i e; simp at e; rw [e.1]
end
theorem modify_at {l : List RFil} {i : Int} {x : RFil} (h : l[i.toNat]? = some x) (f : RFil → RFil) : rset l i f = l.set i.toNat (f x) := modify_set h f
/-- The loops of Up. -/
theorem cut_same {cuts : List Int} {i : Nat} {x : RFil} (h : 0 ≤ x.safe ∧ x.safe ≤ x.b.length) : cutF cuts i ⟨x.b, x.safe.toNat⟩ = ⟨(rcutF cuts i x).b, (rcutF cuts i x).safe.toNat⟩ ∧ 0 ≤ (rcutF cuts i x).safe ∧ (rcutF cuts i x).safe ≤ (rcutF cuts i x).b.length := by
  have e : rcutN cuts i x = (cutN cuts i ⟨x.b, x.safe.toNat⟩ : Int) := by
    unfold rcutN cutN
    cases cuts[i]? with
    | none => simp only; omega
    | some c => simp only; omega
  have hle := cutN_le (cuts := cuts) (i := i) (x := ⟨x.b, x.safe.toNat⟩) (by show x.safe.toNat ≤ x.b.length; omega)
  have hle' : cutN cuts i ⟨x.b, x.safe.toNat⟩ ≤ x.b.length := hle
  unfold cutF rcutF
  rw [e]
  simp only [Int.toNat_natCast, List.length_take]
  exact ⟨trivial, by omega, by omega⟩
theorem up_same {cuts : List Int} {ps : List Nat} : ∀ {l : RDir} {i : Nat} {done : List Int} {f : Nat → Option Fil} {fs : List RFil}, FilS ps f fs → (∀ q ∈ l, InR ps q.2) → (∀ k ∈ done, InR ps k) → FilS ps (upGo cuts (l.map fun q => blk ps q.2) i (done.map (blk ps)) f) (rupGo cuts l i done fs)
  | [], _, _, _, _, h, _, _ => h
  | q :: l, i, done, f, fs, h, hl, hd => by
    have hq := hl q (by simp)
    have hl' : ∀ x ∈ l, InR ps x.2 := fun x hx => hl x (by simp [hx])
    have hiff : blk ps q.2 ∈ done.map (blk ps) ↔ q.2 ∈ done := by
      constructor
      · intro hm
        obtain ⟨k, hk, e⟩ := List.mem_map.1 hm
        rw [← blk_inj h.nd (hd k hk) hq e]
        exact hk
      · exact fun hm => List.mem_map.2 ⟨_, hm, rfl⟩
    show FilS ps (if blk ps q.2 ∈ done.map (blk ps) then _ else _) (if q.2 ∈ done then _ else _)
    by_cases hm : q.2 ∈ done
    · rw [if_pos hm, if_pos (hiff.2 hm)]
      exact up_same h hl' hd
    · rw [if_neg hm, if_neg (fun e => hm (hiff.1 e))]
      obtain ⟨x, h1, h2, h3⟩ := h.inr hq
      obtain ⟨c1, c2⟩ := cut_same (cuts := cuts) (i := i) h3
      rw [h2]
      simp only
      rw [c1, modify_at h1]
      exact up_same (done := q.2 :: done) (h.set hq c2) hl' (fun k hk => by
        rcases List.mem_cons.1 hk with rfl | hk
        · exact hq
        · exact hd k hk)
theorem Sim.up {ps : List Nat} {st : FSt} {rs : RSt} (h : Sim ps st rs) (n : Int) (cuts : List Int) : Sim ps (upF st n cuts) (rup rs n cuts) := by
  have hn : upN st n = rupN rs n := by unfold upN rupN; rw [h.chg, List.length_map]
  have hs : DirS ps (doAll st.safe (st.chg.take (upN st n))) (rsafeF rs (rupN rs n)) := by
    rw [hn, h.chg, ← List.map_take]
    exact h.safe.all (fun r hr => h.chgI r (List.mem_of_mem_take hr))
  exact {
    room := h.room
    down := rfl
    steps := h.steps
    arm1 := fun ha => by cases ha
    arm0 := fun _ => rfl
    files := by
      show FilS ps (upGo cuts (ptrsF (doAll st.safe (st.chg.take (upN st n)))) 0 [] st.files) _
      rw [hs.ptrs]
      exact up_same (done := []) h.files hs.inr (by simp)
    seen := hs
    safe := hs
    chg := rfl
    chgI := fun r hr => by simp [rup] at hr
    all := rfl }
/-- One call, of the document's. -/
def rop (rs : RSt) (k : Int) (nm to : ByteArray) (b : List UInt8) (n : Int) (u : UInt8) (cuts : List Int) : RSt :=
  if k = 0 then (rcreate rs nm).1 else if k = 1 then (rappend rs nm b).1 else if k = 3 then (rrename rs nm to).1 else if k = 4 then (rremove rs nm).1 else if k = 5 then (rfsync rs nm).1
  else if k = 6 then (rsync rs).1 else if k = 7 then (rarm rs n).1 else if k = 8 then rup rs n cuts else if k = 9 then (rflip rs nm n u).1 else rs
/-- One call, whatever its kind. -/
def SRelX (st : FSt) (k : Int) (nm to : ByteArray) (b : List UInt8) (n : Int) (u : UInt8) (cuts : List Int) (st' : FSt) : Prop := if k = 8 then st' = upF st n cuts else if k = 9 then st' = (flipF st nm n u).1 else SRel st k nm to b n st'
theorem nameR_ne {n : ByteArray} (h : nameR n = true) : n ≠ ByteArray.empty := fun e => by
  rw [e] at h
  exact absurd h (by decide)
theorem rahead_name {rs : RSt} {n : ByteArray} (h : rahead rs n = 0) : nameR n = true := by
  unfold rahead at h
  split at h
  · cases h
  · split at h
    · assumption
    · cases h
section
variable {ps : List Nat} {st : FSt} {rs : RSt}
theorem Sim.create (h : Sim ps st rs) (n : ByteArray) {p : Nat} (hp : st.files p = none) : ∃ ps', Sim ps' (createF st n p).1 (rcreate rs n).1 := by
  rcases h.find n with ⟨h1, h2, h3, h4⟩ | ⟨h1, h2, h3, h4⟩ | ⟨h1, h1', h2, h4⟩
  · have e1 : (createF st n p).1 = st := by unfold createF; rw [if_neg (show ¬ (findF st n).1 = 5 from fun e => by rw [h2] at e; cases e)]
    have e2 : (rcreate rs n).1 = rs := by unfold rcreate; rw [if_neg (by rw [h4]; decide), if_pos h3.1]
    rw [e1, e2]
    exact ⟨ps, h⟩
  · unfold createF rcreate
    rw [if_pos (show (findF st n).1 = 5 from by rw [h2]), if_neg (show ¬ rahead rs n ≠ 0 from by rw [h4]; decide), if_neg (show ¬ 0 ≤ rfind rs.seen n from by rw [h3]; decide)]
    refine h.go fun ht => ⟨ps ++ [p], ?_⟩
    have ha := ht.addFile (p := p) hp
    have hlen : (rtick rs).files.length = ps.length := h.files.len.symm
    have hr : RcI (ps ++ [p]) ⟨1, n, ByteArray.empty, ((rtick rs).files.length : Int)⟩ := ⟨fun _ => ⟨by simp, by rw [hlen]; simp⟩, fun h9 => absurd rfl h9⟩
    have hc := ha.change hr
    have e : cOf (ps ++ [p]) ⟨1, n, ByteArray.empty, ((rtick rs).files.length : Int)⟩ = ⟨n, ByteArray.empty, some p⟩ := by
      unfold cOf
      rw [if_pos rfl, hlen]
      unfold blk
      simp
    rw [e] at hc
    exact hc
  · have e1 : (createF st n p).1 = st := by unfold createF; rw [if_neg (by rw [h2]; exact h1')]
    have e2 : (rcreate rs n).1 = rs := by unfold rcreate; rw [if_pos (by rw [h4]; exact h1)]
    rw [e1, e2]
    exact ⟨ps, h⟩
theorem Sim.append (h : Sim ps st rs) (n : ByteArray) (b : List UInt8) : ∃ ps', Sim ps' (appendF st n b).1 (rappend rs n b).1 := by
  unfold appendF rappend
  rcases h.find n with ⟨h1, h2, h3, h4⟩ | ⟨h1, h2, h3, h4⟩ | ⟨h1, h1', h2, h4⟩
  · rw [h2, h1, if_neg (by simp)]
    simp only
    rw [h.room, h.used]
    split
    · exact ⟨ps, h⟩
    · refine h.go fun ht => ⟨ps, ?_⟩
      obtain ⟨x, k1, k2, k3⟩ := ht.files.inr h3
      have k2' : (tick st).files (blk ps (rfind rs.seen n)) = some ⟨x.b, x.safe.toNat⟩ := k2
      rw [k2']
      simp only
      have hs := ht.setFile h3 (y := ⟨x.b ++ b, x.safe⟩) ⟨k3.1, by simp only [List.length_append]; omega⟩
      have e : rset (rtick rs).files (rfind (rtick rs).seen n) (fun x => ⟨x.b ++ b, x.safe⟩) = (rtick rs).files.set (rfind rs.seen n).toNat ⟨x.b ++ b, x.safe⟩ := modify_at k1 _
      rw [e]
      exact hs
  · rw [h2, h1]
    exact ⟨ps, h⟩
  · rw [h2, if_pos h1]
    exact ⟨ps, by split <;> first | exact h | (rename_i e; injection e with e _; exact absurd e h1)⟩
theorem Sim.fsync (h : Sim ps st rs) (n : ByteArray) : ∃ ps', Sim ps' (fsyncF st n).1 (rfsync rs n).1 := by
  unfold fsyncF rfsync
  rcases h.find n with ⟨h1, h2, h3, h4⟩ | ⟨h1, h2, h3, h4⟩ | ⟨h1, h1', h2, h4⟩
  · rw [h2, h1, if_neg (by simp)]
    simp only
    refine h.go fun ht => ⟨ps, ?_⟩
    obtain ⟨x, k1, k2, k3⟩ := ht.files.inr h3
    have k2' : (tick st).files (blk ps (rfind rs.seen n)) = some ⟨x.b, x.safe.toNat⟩ := k2
    rw [k2']
    simp only
    have hs := ht.setFile h3 (y := ⟨x.b, x.b.length⟩) ⟨by simp, Int.le_refl _⟩
    have e : rset (rtick rs).files (rfind (rtick rs).seen n) (fun x => ⟨x.b, x.b.length⟩) = (rtick rs).files.set (rfind rs.seen n).toNat ⟨x.b, x.b.length⟩ := modify_at k1 _
    rw [e]
    exact hs
  · rw [h2, h1]
    exact ⟨ps, h⟩
  · rw [h2, if_pos h1]
    exact ⟨ps, by split <;> first | exact h | (rename_i e; injection e with e _; exact absurd e h1)⟩
theorem Sim.remove (h : Sim ps st rs) (n : ByteArray) : ∃ ps', Sim ps' (removeF st n).1 (rremove rs n).1 := by
  have hno : rthere rs n ≠ 0 → (findF st n).1 = rthere rs n → ∃ ps', Sim ps' (removeF st n).1 (rremove rs n).1 := fun k1 k2 => by
    have e1 : (removeF st n).1 = st := by unfold removeF; rw [if_neg (by rw [k2]; exact k1)]
    have e2 : (rremove rs n).1 = rs := by unfold rremove; rw [if_pos k1]
    rw [e1, e2]
    exact ⟨ps, h⟩
  rcases h.find n with ⟨h1, h2, h3, h4⟩ | ⟨h1, h2, h3, h4⟩ | ⟨h1, h1', h2, h4⟩
  · unfold removeF rremove
    rw [if_pos (show (findF st n).1 = 0 from by rw [h2]), if_neg (show ¬ rthere rs n ≠ 0 from by rw [h1]; decide)]
    refine h.go fun ht => ⟨ps, ?_⟩
    exact ht.change (r := ⟨2, n, ByteArray.empty, 0⟩) ⟨fun h9 => absurd rfl h9, fun _ h9 => absurd rfl h9⟩
  · exact hno (by rw [h1]; decide) (by rw [h2, h1])
  · exact hno h1 (by rw [h2])
theorem Sim.rename (h : Sim ps st rs) (n m : ByteArray) : ∃ ps', Sim ps' (renameF st n m).1 (rrename rs n m).1 := by
  unfold renameF rrename
  rw [← h.ahead n, ← h.ahead m]
  by_cases h7 : rahead rs n ≠ 0
  · rw [if_pos h7, if_pos h7]
    exact ⟨ps, h⟩
  · rw [if_neg h7, if_neg h7]
    by_cases h8 : rahead rs m ≠ 0
    · rw [if_pos h8, if_pos h8]
      exact ⟨ps, h⟩
    · rw [if_neg h8, if_neg h8]
      rcases h.find n with ⟨h1, h2, h3, h4⟩ | ⟨h1, h2, h3, h4⟩ | ⟨h1, h1', h2, h4⟩
      · rw [h2, h1, if_neg (by simp)]
        simp only
        refine h.go fun ht => ⟨ps, ?_⟩
        exact ht.change (r := ⟨3, n, m, rfind (rtick rs).seen n⟩) ⟨fun _ => h3, fun _ _ => nameR_ne (rahead_name h4)⟩
      · rw [h2, h1]
        exact ⟨ps, h⟩
      · rw [h2, if_pos h1]
        exact ⟨ps, by split <;> first | exact h | (rename_i e; injection e with e _; exact absurd e h1)⟩
theorem Sim.sync (h : Sim ps st rs) : ∃ ps', Sim ps' (syncF st).1 (rsync rs).1 := by
  unfold syncF rsync
  rw [h.down]
  cases st.down with
  | true => exact ⟨ps, h⟩
  | false =>
    simp only [Bool.false_eq_true, if_false]
    refine h.go fun ht => ⟨ps, ?_⟩
    refine ⟨ht.room, ht.down, ht.steps, ht.arm1, ht.arm0, ht.files, ht.seen, ?_, rfl, (fun r hr => by simp at hr), rfl⟩
    show DirS ps (doAll st.safe (st.chg.take st.chg.length)) rs.seen
    rw [List.take_length, h.chg, h.all]
    exact h.safe.all h.chgI
theorem Sim.arm (h : Sim ps st rs) {n : Int} (hn : n < 9223372036854775808) : ∃ ps', Sim ps' (armF st n).1 (rarm rs n).1 := by
  unfold armF rarm
  rw [h.down]
  cases hd : st.down with
  | true => exact ⟨ps, h⟩
  | false =>
    simp only [Bool.false_eq_true, if_false]
    split
    · exact ⟨ps, h⟩
    · exact ⟨ps, h.like rfl rfl rfl rfl rfl rfl rfl rfl rfl rfl rfl h.steps (fun _ => ⟨rfl, by show 0 ≤ n; omega, hn⟩) (fun ha => by cases ha)⟩
theorem Sim.flip (h : Sim ps st rs) (n : ByteArray) (i : Int) (u : UInt8) : ∃ ps', Sim ps' (flipF st n i u).1 (rflip rs n i u).1 := by
  unfold flipF rflip
  rcases h.find n with ⟨h1, h2, h3, h4⟩ | ⟨h1, h2, h3, h4⟩ | ⟨h1, h1', h2, h4⟩
  · rw [h2, h1, if_neg (by simp)]
    simp only
    obtain ⟨x, k1, k2, k3⟩ := h.files.inr h3
    have e1 : (bytesF st (blk ps (rfind rs.seen n))).length = rlen rs (rfind rs.seen n) := by unfold bytesF rlen; rw [k1, k2]
    rw [e1]
    split
    · exact ⟨ps, h⟩
    · rw [k2]
      simp only
      rw [modify_at k1]
      exact ⟨ps, h.setFile h3 (y := ⟨x.b.modify i.toNat (· ^^^ u), x.safe⟩) ⟨k3.1, by simp only [List.length_modify]; exact k3.2⟩⟩
  · rw [h2, h1]
    exact ⟨ps, h⟩
  · rw [h2, if_pos h1]
    exact ⟨ps, by split <;> first | exact h | (rename_i e; injection e with e _; exact absurd e h1)⟩
/-- One call keeps both alike. -/
theorem Sim.op (h : Sim ps st rs) {st' : FSt} {k : Int} {nm to : ByteArray} {b : List UInt8} {n : Int} {u : UInt8} {cuts : List Int} (hr : SRelX st k nm to b n u cuts st') (hn : n < 9223372036854775808) : ∃ ps', Sim ps' st' (rop rs k nm to b n u cuts) := by
  unfold SRelX at hr
  unfold rop
  by_cases h8 : k = 8
  · subst h8
    rw [if_pos rfl] at hr
    subst hr
    exact ⟨ps, h.up n cuts⟩
  rw [if_neg h8] at hr
  by_cases h9 : k = 9
  · subst h9
    rw [if_pos rfl] at hr
    subst hr
    exact h.flip nm n u
  rw [if_neg h9] at hr
  unfold SRel at hr
  by_cases h0 : k = 0
  · subst h0
    rw [if_pos rfl] at hr
    obtain ⟨p, hp, rfl⟩ := hr
    exact h.create nm hp
  rw [if_neg h0] at hr ⊢
  by_cases h1 : k = 1
  · subst h1
    rw [if_pos rfl] at hr
    subst hr
    exact h.append nm b
  rw [if_neg h1] at hr ⊢
  by_cases h3 : k = 3
  · subst h3
    rw [if_pos rfl] at hr
    subst hr
    exact h.rename nm to
  rw [if_neg h3] at hr ⊢
  by_cases h4 : k = 4
  · subst h4
    rw [if_pos rfl] at hr
    subst hr
    exact h.remove nm
  rw [if_neg h4] at hr ⊢
  by_cases h5 : k = 5
  · subst h5
    rw [if_pos rfl] at hr
    subst hr
    exact h.fsync nm
  rw [if_neg h5] at hr ⊢
  by_cases h6 : k = 6
  · subst h6
    rw [if_pos rfl] at hr
    subst hr
    exact h.sync
  rw [if_neg h6] at hr ⊢
  by_cases h7 : k = 7
  · subst h7
    rw [if_pos rfl] at hr
    subst hr
    exact h.arm hn
  rw [if_neg h7] at hr ⊢
  rw [if_neg h8, if_neg h9, hr]
  exact ⟨ps, h⟩
end
theorem Sim.new (room : Int) : Sim [] (newF room) (rnewF room) where
  room := rfl
  down := rfl
  steps := rfl
  arm1 := fun ha => by cases ha
  arm0 := fun _ => rfl
  files := ⟨rfl, List.nodup_nil, fun i x hx => by simp [rnewF] at hx⟩
  seen := ⟨List.nodup_nil, List.Pairwise.nil, fun q hq => by simp [rnewF] at hq, fun n => rfl⟩
  safe := ⟨List.nodup_nil, List.Pairwise.nil, fun q hq => by simp [rnewF] at hq, fun n => rfl⟩
  chg := rfl
  chgI := fun r hr => by simp [rnewF] at hr
  all := rfl
end Go.Proofs.YtgehalfnpbjjcaaGreat

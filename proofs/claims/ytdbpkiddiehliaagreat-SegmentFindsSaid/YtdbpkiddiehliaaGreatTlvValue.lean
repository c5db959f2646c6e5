/- tlv's writer: a value's bytes behind what is there. -/
import Derived.Test.YtdbpkiddiehliaaGreatTlvInner
import Derived.Deep.RegionHeld3
import Derived.Deep.RegionLaw
import Derived.Deep.DeepCutAuto
import Derived.Deep.CutBlock
namespace Go.Proofs.YtdbpkiddiehliaaGreat
open Go Go.RowKit
/-- A writer's block: a slice of its own, with these bytes. -/
structure WS (w : World) (wb base : Nat) (a : Option Addr) (c : Nat) (acc : List UInt8) : Prop where
  heap : w.heap[wb]? = some (.cells #[.slice a acc.length c] 113 (0, 0))
  own : OwnB w base (.slice a acc.length c) acc
  apart : ¬ mine (.slice a acc.length c) wb
/-- Of w nothing has turned in w' but the writer's block and its bytes'. -/
structure WF (w : World) (wb : Nat) (v : Value) (w' : World) (v' : Value) : Prop where
  fr : Fr (fun k => k = wb ∨ mine v k) w w'
  new : ∀ k, mine v' k → mine v k ∨ w.heap.size ≤ k
theorem WF.refl (w : World) (wb : Nat) (v : Value) : WF w wb v w v := ⟨Fr.refl _ _, fun _ h => .inl h⟩
theorem WF.trans {w w1 w2 : World} {wb : Nat} {v v1 v2 : Value} (h : WF w wb v w1 v1) (k : WF w1 wb v1 w2 v2) : WF w wb v w2 v2 :=
  ⟨h.fr.trans' k.fr (fun i hi hs => hs.imp id (fun hm => (h.new i hm).resolve_right (by omega))), fun i hi => by
    rcases k.new i hi with hm | hm
    · exact h.new i hm
    · exact .inr (Nat.le_trans h.fr.size hm)⟩
theorem WF.of_fr {w w1 : World} {wb : Nat} {v : Value} (h : Fr (fun _ => False) w w1) : WF w wb v w1 v := ⟨h.mono (fun _ _ h => h.elim), fun _ h => .inl h⟩
/-- Bytes more: an append in some later world, and the store of what came of it. -/
theorem WS.step {w w1 w2 : World} {wb base n' : Nat} {a a' : Option Addr} {c c' : Nat} {acc more : List UInt8} {cs : List Value} (h : WS w wb base a c acc) (h1 : Fr (fun _ => False) w w1) (hn' : n' = (acc ++ more).length) (hcs : cs = bcells (acc ++ more))
    (ho : Own w2 base 5 1 (.slice a' n' c') n' cs) (hf : Fr (mine (.slice a acc.length c)) w1 w2)
    (hm : ∀ k, mine (.slice a' n' c') k → mine (.slice a acc.length c) k ∨ w1.heap.size ≤ k) :
    WS (w2.setCell ⟨wb, 0, none⟩ (.slice a' n' c')) wb base a' c' (acc ++ more) ∧ WF w wb (.slice a acc.length c) (w2.setCell ⟨wb, 0, none⟩ (.slice a' n' c')) (.slice a' (acc ++ more).length c') := by
  subst hn' hcs
  have hwb := lt_of_heap h.heap
  have hn : ¬ mine (.slice a' (acc ++ more).length c') wb := fun hk => (hm wb hk).elim h.apart (fun hl => by have := h1.size; omega)
  have hh : w2.heap[wb]? = some (.cells #[.slice a acc.length c] 113 (0, 0)) := hf.heap (h1.heap h.heap id) h.apart
  refine ⟨⟨heap_store hh 0 _, Own.fr ho ((Fr.refl (· = wb) w2).setCell (p := ⟨wb, 0, none⟩) (fun _ => rfl) _) (fun k hk e => hn (e ▸ hk)), hn⟩, ?_, fun k hk => (hm k hk).imp id (fun hl => Nat.le_trans h1.size hl)⟩
  exact ((h1.mono (fun _ _ h => h.elim)).trans (hf.mono (fun _ _ h => .inr h))).setCell (p := ⟨wb, 0, none⟩) (fun _ => .inl rfl) _
/-- A block that is not the writer's stays over such a step. -/
theorem WS.keeps {w w1 w2 : World} {wb base n' k : Nat} {a a' : Option Addr} {c c' : Nat} {acc : List UInt8} {o : Obj} (h : WS w wb base a c acc) (hk : w.heap.size ≤ k) (hf : Fr (mine (.slice a acc.length c)) w1 w2) (ho : w1.heap[k]? = some o) : (w2.setCell ⟨wb, 0, none⟩ (.slice a' n' c')).heap[k]? = some o := by
  have hwb := lt_of_heap h.heap
  rw [heap_setCell_other _ _ _ _ (by show k ≠ wb; omega)]
  exact hf.heap ho (fun hm => by have := (Own.mine_ge h.own hm).2; omega)
theorem enc_head {tag : Int} {d n : Nat} {b : List UInt8} {l : List TV} (h : (inn d (.mk tag n b l)).isSome = true) : tag = 1 ∨ tag = 2 ∨ tag = 3 := by
  rw [inn] at h
  split at h
  · rename_i h1
    have := h1.1
    unfold onlyB at this
    split at this
    · exact .inl ‹_›
    · split at this
      · exact .inr (.inl ‹_›)
      · split at this
        · exact .inr (.inr ‹_›)
        · cases this
  · cases h
theorem row_at {w : World} {g n : Nat} {cs : Array Value} {e : TypeId} (hg : w.heap[g]? = some (.cells cs e (0, 0))) (hn : cs.size = n) (hl : n ≤ 140737488355328) : Row (fun _ => False) w (.slice (some ⟨g, 0, none⟩) n n) n 1 cs.toList := by
  refine ⟨by simp [hn], _, n, rfl, ⟨Nat.le_refl _, hl, by unfold maxLen; omega⟩, (fun h => nomatch h), .inr ⟨g, 0, rfl, lt_of_heap hg, id, fun j x hx => ?_⟩⟩
  rw [cell_of_heap hg, Nat.zero_add, ← Array.getElem?_toList]
  exact hx
theorem inns_each {d : Nat} : ∀ {l : List TV}, (inns d l).isSome = true → ∀ (i : Nat) (hi : i < l.length), (inn d l[i]).isSome = true
  | [], _, i, hi => by simp at hi
  | v :: l, h, i, hi => by
    rw [inns] at h
    cases hv : inn d v with
    | none => rw [hv] at h; cases h
    | some k =>
      rw [hv] at h
      cases i with
      | zero => simp [hv]
      | succ i =>
        simp only [List.getElem_cons_succ]
        exact inns_each (by simpa using h) i (by simpa using hi)
theorem inn_each {d : Nat} {tag : Int} {n : Nat} {b : List UInt8} {l : List TV} (h : (inn d (.mk tag n b l)).isSome = true) (i : Nat) (hi : i < l.length) : (inn (d - 1) l[i]).isSome = true := by
  rw [inn] at h
  split at h
  · refine inns_each ?_ i hi
    cases hh : inns (d - 1) l with
    | none => rw [hh] at h; cases h
    | some s => rfl
  · cases h
theorem WS.some {w : World} {wb base : Nat} {a : Option Addr} {c : Nat} {acc : List UInt8} (h : WS w wb base a c acc) (hl : 0 < acc.length) : ∃ g, a = some ⟨g, 0, none⟩ ∧ g ≠ wb ∧ w.heap[g]?.isSome = true ∧ w.frozen? ⟨g, acc.length, none⟩ = false := by
  obtain ⟨h0, ⟨h1, _⟩ | ⟨g, cap, cur, hv, hb, hg, r⟩⟩ := h.own
  · omega
  · injection hv with e1 _ e3
    refine ⟨g, e1, fun e => ?_, by rw [hg]; rfl, frozen_of_row w g _ _ _ hg⟩
    have := h.heap
    rw [← e, hg] at this
    injection this with this
    injection this with _ ht _
    exact absurd ht (by decide)
theorem inn_pos {d : Nat} {tag : Int} {n : Nat} {b : List UInt8} {l : List TV} (h : (inn d (.mk tag n b l)).isSome = true) (hl : 0 < l.length) : d ≠ 0 := by
  rw [inn] at h
  split at h
  · rename_i hc
    exact hc.2 (onlyB_list hc.1 hl)
  · cases h
theorem encs_append : ∀ (l m : List TV), encs (l ++ m) = encs l ++ encs m
  | [], m => by simp [encs]
  | v :: l, m => by rw [List.cons_append, encs, encs, encs_append l m, List.append_assoc]
theorem encs_snoc {l : List TV} {i : Nat} (hi : i < l.length) : encs (l.take (i + 1)) = encs (l.take i) ++ enc l[i] := by
  rw [List.take_succ_eq_append_getElem hi, encs_append, encs, encs, List.append_nil]
theorem WS.fr {w w' : World} {wb base : Nat} {a : Option Addr} {c : Nat} {acc : List UInt8} (h : WS w wb base a c acc) (hf : Fr (fun _ => False) w w') : WS w' wb base a c acc :=
  ⟨hf.heap h.heap id, Own.fr h.own hf (fun _ _ h => h), h.apart⟩
theorem bcells_patch (acc body : List UInt8) (t x y : UInt8) : ((bcells (acc ++ ([t, 0, 0] ++ body))).set (acc.length + 1) (bcell x)).set (acc.length + 2) (bcell y) = bcells (acc ++ ([t, x, y] ++ body)) := by
  simp [bcells]
/-- The two bytes of the length are laid. -/
theorem WS.patch {w wr : World} {wb base g c2 : Nat} {v : Value} {acc body : List UInt8} {t : UInt8} (hw : WS wr wb base (Option.some ⟨g, 0, none⟩) c2 (acc ++ ([t, 0, 0] ++ body)))
    (hwf : WF w wb v wr (.slice (Option.some ⟨g, 0, none⟩) (acc ++ ([t, 0, 0] ++ body)).length c2)) (hgw : g ≠ wb) (x y : UInt8) :
    WS ((wr.setCell ⟨g, acc.length + 1, none⟩ (bcell x)).setCell ⟨g, acc.length + 2, none⟩ (bcell y)) wb base (Option.some ⟨g, 0, none⟩) c2 (acc ++ ([t, x, y] ++ body)) ∧
    WF w wb v ((wr.setCell ⟨g, acc.length + 1, none⟩ (bcell x)).setCell ⟨g, acc.length + 2, none⟩ (bcell y)) (.slice (Option.some ⟨g, 0, none⟩) (acc ++ ([t, x, y] ++ body)).length c2) := by
  have hl : (acc ++ ([t, x, y] ++ body)).length = (acc ++ ([t, 0, 0] ++ body)).length := by simp
  have hl3 : 3 + acc.length ≤ (acc ++ ([t, 0, 0] ++ body)).length := by simp; omega
  have h1 := (Own.store hw.own (acc.length + 1) (by omega) (bcell x)).2
  have h2 := (Own.store h1 (acc.length + 2) (by omega) (bcell y)).2
  rw [bcells_patch] at h2
  rw [hl]
  have hc0 : c2 ≠ 0 := by
    obtain ⟨_, _, hv, hf⟩ := Own.len hw.own
    injection hv with _ _ e
    have := hf.1
    omega
  have hmg : mine (.slice (Option.some ⟨g, 0, none⟩) (acc ++ ([t, 0, 0] ++ body)).length c2) g := ⟨0, _, c2, rfl, hc0⟩
  refine ⟨⟨?_, ?_, ?_⟩, ?_, hwf.new⟩
  · rw [hl, heap_setCell_other _ _ _ _ (by exact fun e => hgw e.symm), heap_setCell_other _ _ _ _ (by exact fun e => hgw e.symm)]
    exact hw.heap
  · unfold OwnB; rw [hl]; exact h2
  · rw [hl]; exact hw.apart
  · have hS : g < w.heap.size → (g = wb ∨ mine v g) := fun hk => .inr ((hwf.new g hmg).resolve_right (by omega))
    exact (hwf.fr.setCell (p := ⟨g, _, none⟩) hS _).setCell (p := ⟨g, _, none⟩) hS _
/-- Where the writer stands within a call: what it has written, and the call's own value in its box. -/
def VS (w : World) (wb base : Nat) (a : Option Addr) (c : Nat) (acc : List UInt8) (box : Array Value) (wr : World) (now : List UInt8) : Prop :=
  ∃ a' c', WS wr wb base a' c' now ∧ WF w wb (.slice a acc.length c) wr (.slice a' now.length c') ∧ wr.heap[w.heap.size]? = some (.cells box 92 (0, 0))
theorem Own.elem {w : World} {base : Nat} {e : TypeId} {size : Nat} {v : Value} {n : Nat} {cs : List Value} (h : Own w base e size v n cs) {k : Nat} (hk : mine v k) : ∃ cur, w.heap[k]? = some (.cells cur e (0, 0)) := by
  obtain ⟨off, m, c, hv, hc⟩ := hk
  obtain ⟨h0, ⟨rfl, a, h⟩ | ⟨g, cap, cur, h, hb, hg, r⟩⟩ := h
  · rw [h] at hv; injection hv with _ _ e; exact absurd e.symm hc
  · rw [h] at hv; injection hv with e1 _ _; injection e1 with e1; injection e1 with e1 _ _; subst e1; exact ⟨cur, hg⟩
theorem VS.step {w wl w1 w2 : World} {wb base n' : Nat} {a a1 a' : Option Addr} {c c1 c' : Nat} {acc now more : List UInt8} {box : Array Value} {cs : List Value}
    (hw : WS wl wb base a1 c1 now) (hwf : WF w wb (.slice a acc.length c) wl (.slice a1 now.length c1)) (hbox : wl.heap[w.heap.size]? = some (.cells box 92 (0, 0))) (h1 : Fr (fun _ => False) wl w1)
    (hn' : n' = (now ++ more).length) (hcs : cs = bcells (now ++ more)) (hwb : wb ≠ w.heap.size)
    (ho : Own w2 base 5 1 (.slice a' n' c') n' cs) (hf : Fr (mine (.slice a1 now.length c1)) w1 w2)
    (hm : ∀ k, mine (.slice a' n' c') k → mine (.slice a1 now.length c1) k ∨ w1.heap.size ≤ k) :
    VS w wb base a c acc box (w2.setCell ⟨wb, 0, none⟩ (.slice a' n' c')) (now ++ more) := by
  have hst := WS.step hw h1 hn' hcs ho hf hm
  refine ⟨a', c', hst.1, hwf.trans hst.2, ?_⟩
  rw [heap_setCell_other _ _ _ _ (by exact fun e => hwb e.symm)]
  refine hf.heap (h1.heap hbox id) (fun hk => ?_)
  obtain ⟨cur, hc⟩ := Own.elem hw.own hk
  rw [hbox] at hc
  injection hc with hc
  injection hc with _ he _
  exact absurd he (by decide)
/-- What the writer leaves. -/
def RetW (w : World) (wb base : Nat) (a : Option Addr) (c : Nat) (acc r : List UInt8) (e : Ending) (w' : World) : Prop :=
  e = .returned (.tuple #[]) ∧ ∃ a' c', WS w' wb base a' c' r ∧ WF w wb (.slice a acc.length c) w' (.slice a' r.length c')
set_option maxRecDepth 100000 in
set_option maxHeartbeats 2000000 in
theorem value_step {base : Nat} (d : Nat) (tag : Int) (n : Nat) (b : List UInt8) (l : List TV) (x : Value) (w : World) (wb : Nat) (a : Option Addr) (c : Nat) (acc : List UInt8)
    (hr : (inn d (.mk tag n b l)).isSome = true) (hw : WS w wb base a c acc) (hbase : base ≤ w.heap.size) (N : Nat) (hN : N ≤ 1099511627776) (hlen : acc.length ≤ N) (hv : TVv (fun k => k = wb ∨ mine (.slice a acc.length c) k) w (.mk tag n b l) x)
    (ih : d ≠ 0 → ∀ (v : TV) (x : Value) (w : World) (a : Option Addr) (c : Nat) (acc : List UInt8), (inn (d - 1) v).isSome = true → WS w wb base a c acc → base ≤ w.heap.size → acc.length ≤ N + 65546 + 65535 → TVv (fun k => k = wb ∨ mine (.slice a acc.length c) k) w v x →
      Calls Tryz.prog 49 #[.pointer (some ⟨wb, 0, none⟩), x] w (RetW w wb base a c acc (acc ++ enc v))) :
    Calls Tryz.prog 49 #[.pointer (some ⟨wb, 0, none⟩), x] w (RetW w wb base a c acc (acc ++ enc (.mk tag n b l))) := by
  have HV := hid hv
  obtain ⟨c0, c1, c2, c3, rfl, h⟩ := hv
  obtain ⟨hn, vb, vl, ks, hc, hb, hrow, hch⟩ := h.cells
  simp only [List.cons.injEq, and_true] at hc
  obtain ⟨rfl, rfl, rfl, rfl⟩ := hc
  have HB := hid hb
  obtain ⟨ab, cb, rfl, ⟨hlb, hbl, hcm⟩, _, _⟩ := hb
  have HR := hid hrow
  have HC := hid hch
  obtain ⟨_, al, cl, rfl, ⟨hll, hlim, hcm'⟩, _, h4⟩ := hrow
  have H4 := hid h4
  unfold maxLen at hcm hcm'
  simp only [TV.tag, TV.num, TV.byt, TV.lst] at *
  clear h hch h4
  have HRI := hid hr
  have htag := enc_head hr
  have IH := hid ih
  have HW := hid hw
  have hb65 : b.length ≤ 65535 := by
    obtain ⟨q, hq⟩ := Option.isSome_iff_exists.1 hr
    have h1 := inn_length _ _ _ hq
    have h2 := inn_le hq
    simp only [TV.body, List.length_append] at h1
    omega
  have he65 : (encs l).length ≤ 65535 := by
    obtain ⟨q, hq⟩ := Option.isSome_iff_exists.1 hr
    have h1 := inn_length _ _ _ hq
    have h2 := inn_le hq
    simp only [TV.body, List.length_append] at h1
    omega
  have HIN := hid (inn_each hr)
  have hmf : ∀ (fn : Fn) (first cap : Array Value) (w : World), (Instr.makeFunc fn first cap).run Tryz.prog w = .ok (.func fn first cap) w := fun _ _ _ _ => rfl
  have hwb := lt_of_heap hw.heap
  have hc0 : w.cell? ⟨wb, 0, none⟩ = some (.slice a acc.length c) := cell_of_heap hw.heap 0
  have hz0 : w.frozen? ⟨wb, 0, none⟩ = false := frozen_of_row w wb 0 _ _ hw.heap
  clear hr ih hw
  have ht0 : 0 ≤ tag := by omega
  have ht3 : tag ≤ 3 := by omega
  clear htag
  go_enter Tryz.func49, Tryz.ntmps49
  go_upto_region 2 with (fail)
  go_cut [] (fun wr => VS w wb base a c acc #[.int .i64 tag, .int .u64 (n : Int), .slice ab b.length cb, .slice al l.length cl] wr (acc ++ [UInt8.ofNat tag.toNat, 0, 0]))
  case first =>
    go_region_law ((refine step_append (v := .slice a acc.length c) (S := fun _ => False) rfl rfl etB rfl (Own.fr HW.out.own (by repeat (first | exact Fr.refl _ _ | refine Fr.drew ?_ | refine Fr.alloc ?_ _)) (fun _ _ h => h)) rfl (row_at (heap_alloc2_new w _ _) rfl (by omega)) (by simp [Value.oneCell']) (by omega) (by simp; omega) ?_; intro a1 c1 w1 ho1 hf1 hm1; have hc1 : w1.cell? ⟨wb, 0, none⟩ = some (.slice a acc.length c) := (by rw [hf1.cell (p := ⟨wb, 0, none⟩) (by simp; omega) HW.out.apart]; go_simp); have hz1 : w1.frozen? ⟨wb, 0, none⟩ = false := (by rw [hf1.frozen (p := ⟨wb, 0, none⟩) (by simp; omega) HW.out.apart]; go_simp)))
    all_goals
      go_wp2_with fail
      go_meet
      have hst := WS.step (more := [UInt8.ofNat tag.toNat, 0, 0]) HW.out (by repeat (first | exact Fr.refl _ _ | refine Fr.drew ?_ | refine Fr.alloc ?_ _)) (by simp) (by
        have ht8 : IntKind.u8.wrap tag = ((UInt8.ofNat tag.toNat).toNat : Int) := by
          simp [IntKind.wrap, IntKind.signed, IntKind.bits]; omega
        simp [bcells, bcell, ht8]) ho1 hf1 hm1
      exact ⟨a1, c1, hst.1, hst.2, WS.keeps HW.out (Nat.le_refl _) hf1 (by exact heap_alloc2_old w _ _)⟩
  case rest =>
    have hL := bitLen_len n hn
    have hk := bitLen_le n
    have hL' : ((Lib.bitLen n : Int) + 7) / 8 = ((numBytes n).length : Int) := by omega
    have hLb : (numBytes n).length ≤ 8 := by omega
    have HLEN := hid (len64_ok n · hn)
    have HNG := hid (numBytes_get n)
    generalize hkk : Lib.bitLen n = k at *
    generalize hLL : (numBytes n).length = L at *
    have HLL := hid hLL
    have HCUT := hid hcut
    obtain ⟨_, _, _, _, hbox⟩ := hcut
    have b1 : wc.cell? ⟨w.heap.size, 1, none⟩ = some (.int .u64 (n : Int)) := cell_of_heap hbox 1
    clear hL hLL hkk hbox hc0 hz0
    go_wp2_with (go_at_call 65; refine (HLEN.out _).mono ?_; rintro e w' ⟨rfl, rfl⟩)
    simp only [hL']
    clear hL' b1
    go_loopw [5] (fun s wl => ∃ j m : Nat, j + m = L ∧ s = .int .i64 ((8 * m : Nat) : Int) ∧ VS w wb base a c acc #[.int .i64 tag, .int .u64 (n : Int), .slice ab b.length cb, .slice al l.length cl] wl (acc ++ [UInt8.ofNat tag.toNat, 0, 0] ++ (numBytes n).take j)) (fun s _ => (intOf s).toNat)
    case atStart => exact ⟨0, L, by omega, by go_num, by rw [List.take_zero, List.append_nil]; exact HCUT.out⟩
    case round =>
      obtain ⟨j, m, hjm, rfl, hvs⟩ := hrel
      have hjl : j ≤ L := by omega
      have HJM := hid hjm
      clear hjm
      have HVS := hid hvs
      cases m with
      | succ m =>
        clear hvs
        have HG := hid (HNG.out L j rfl (by have := HJM.out; omega))
        have HTK := hid (show (numBytes n).take (j + 1) = (numBytes n).take j ++ [UInt8.ofNat (n / 256 ^ m % 256)] by
          have h1 := HG.out
          rw [show L - 1 - j = m from by have := HJM.out; omega] at h1
          rw [List.take_add_one, h1]; rfl)
        have hvs := HVS.out
        clear HVS
        have HAC := hid (show (acc ++ [UInt8.ofNat tag.toNat, 0, 0] ++ (numBytes n).take (j + 1)) = (acc ++ [UInt8.ofNat tag.toNat, 0, 0] ++ (numBytes n).take j) ++ [UInt8.ofNat (n / 256 ^ m % 256)] by rw [HTK.out, ← List.append_assoc])
        have hnl : (acc ++ [UInt8.ofNat tag.toNat, 0, 0] ++ (numBytes n).take j).length ≤ N + 11 := by
          simp only [List.length_append, List.length_take, List.length_cons, List.length_nil]; omega
        generalize acc ++ [UInt8.ofNat tag.toNat, 0, 0] ++ (numBytes n).take j = now at hvs HAC hnl
        obtain ⟨a1, c1, hw1, hwf1, hbox⟩ := hvs
        have b0 : wr.cell? ⟨wb, 0, none⟩ = some (.slice a1 now.length c1) := cell_of_heap hw1.heap 0
        have b1 : wr.cell? ⟨w.heap.size, 1, none⟩ = some (.int .u64 (n : Int)) := cell_of_heap hbox 1
        have hz : wr.frozen? ⟨wb, 0, none⟩ = false := frozen_of_row wr wb 0 _ _ hw1.heap
        have hwbl := lt_of_heap hw1.heap
        have hbxl := lt_of_heap hbox
        have hw1 := hid hw1
        have hwf1 := hid hwf1
        have hbox := hid hbox
        have hbw : base ≤ wr.heap.size := by have := hwf1.out.fr.size; omega
        obtain ⟨p, hp⟩ : ∃ p, p = 8 * m := ⟨_, rfl⟩
        have hp8 : ((8 * (m + 1) : Nat) : Int) = (p : Int) + 8 := by omega
        have hp64 : p ≤ 56 := by have := HJM.out; omega
        have HP := hid hp
        rw [hp8]
        have hwp : IntKind.i64.wrap (p : Int) = (p : Int) := IntWalk.i64_in _ (by omega)
        have hp0 : (0 : Int) ≤ (p : Int) := by omega
        clear hp hp8
        have HSH := hid (show IntKind.u8.wrap ((n : Int) / 2 ^ p) = ((UInt8.ofNat (n / 256 ^ m % 256)).toNat : Int) by
          rw [HP.out]
          have h2 : (2 : Nat) ^ (8 * m) = 256 ^ m := by rw [Nat.pow_mul]
          have h3 : ((2 : Int) ^ (8 * m)) = ((256 ^ m : Nat) : Int) := by rw [← h2]; simp
          rw [h3, UInt8.toNat_ofNat']
          simp [IntKind.wrap, IntKind.signed, IntKind.bits])
        go_upto_block 1 with (fail)
        go_cut [] (fun wz => VS w wb base a c acc #[.int .i64 tag, .int .u64 (n : Int), .slice ab b.length cb, .slice al l.length cl] wz (now ++ [UInt8.ofNat (n / 256 ^ m % 256)]))
        case first =>
          go_wp2_with fail
          go_region_law ((refine step_append (v := .slice a1 now.length c1) (S := fun _ => False) rfl rfl etB rfl (Own.fr hw1.out.own (by repeat (first | exact Fr.refl _ _ | refine Fr.drew ?_ | refine Fr.alloc ?_ _)) (fun _ _ h => h)) rfl (row_at (heap_alloc_new wr _) rfl (by omega)) (by simp [Value.oneCell']) (by omega) (by simp; omega) ?_; intro a2 c2 w2 ho2 hf2 hm2; have hc2 : w2.cell? ⟨wb, 0, none⟩ = some (.slice a1 now.length c1) := (by rw [hf2.cell (p := ⟨wb, 0, none⟩) (by simp; omega) hw1.out.apart]; go_simp); have hz2 : w2.frozen? ⟨wb, 0, none⟩ = false := (by rw [hf2.frozen (p := ⟨wb, 0, none⟩) (by simp; omega) hw1.out.apart]; go_simp)))
          all_goals
            go_wp2_with fail
            go_meet
            exact VS.step hw1.out hwf1.out hbox.out (by repeat (first | exact Fr.refl _ _ | refine Fr.drew ?_ | refine Fr.alloc ?_ _)) (by simp) (by rw [HSH.out]; simp [bcells, bcell]) (by omega) ho2 hf2 hm2
        case rest =>
          have HC6 := hid hcut
          clear hcut
          go_wp2
          go_roundw
          case rel => exact ⟨j + 1, m, by have := HJM.out; omega, by rw [← HP.out], by rw [HAC.out]; exact HC6.out⟩
          case measure => simp [intOf]; omega
      | zero =>
        obtain rfl : j = L := by have := HJM.out; omega
        clear hvs
        have hvs := HVS.out
        clear HVS
        have HTK := hid (show (numBytes n).take j = numBytes n from List.take_of_length_le (by rw [HLL.out]; omega))
        rw [HTK.out] at hvs
        have hnl : (acc ++ [UInt8.ofNat tag.toNat, 0, 0] ++ numBytes n).length ≤ N + 11 := by
          simp only [List.length_append, List.length_cons, List.length_nil, HLL.out]; omega
        have HNOW := hid (show acc ++ [UInt8.ofNat tag.toNat, 0, 0] ++ numBytes n = acc ++ [UInt8.ofNat tag.toNat, 0, 0] ++ numBytes n from rfl)
        generalize hnow : acc ++ [UInt8.ofNat tag.toNat, 0, 0] ++ numBytes n = now at hvs hnl
        have HNW := hid hnow
        clear hnow HNOW
        obtain ⟨a1, c1, hw1, hwf1, hbox⟩ := hvs
        have b0 : wr.cell? ⟨wb, 0, none⟩ = some (.slice a1 now.length c1) := cell_of_heap hw1.heap 0
        have b2 : wr.cell? ⟨w.heap.size, 2, none⟩ = some (.slice ab b.length cb) := cell_of_heap hbox 2
        have hz : wr.frozen? ⟨wb, 0, none⟩ = false := frozen_of_row wr wb 0 _ _ hw1.heap
        have hwbl := lt_of_heap hw1.heap
        have hbxl := lt_of_heap hbox
        have hw1 := hid hw1
        have hwf1 := hid hwf1
        have hbox := hid hbox
        have hbw : base ≤ wr.heap.size := by have := hwf1.out.fr.size; omega
        have hbrow := hid (HB.out.fr hwf1.out.fr (fun _ _ h => h)).row
        go_upto_region 7 with (fail)
        go_cut [] (fun wz => VS w wb base a c acc #[.int .i64 tag, .int .u64 (n : Int), .slice ab b.length cb, .slice al l.length cl] wz (now ++ b))
        case first =>
          go_region_law ((refine step_append (v := .slice a1 now.length c1) (S := fun k => k = wb ∨ mine (.slice a acc.length c) k) rfl rfl etB rfl (Own.fr hw1.out.own (by repeat (first | exact Fr.refl _ _ | refine Fr.drew ?_ | refine Fr.alloc ?_ _)) (fun _ _ h => h)) rfl (hbrow.out.fr (S' := fun _ => False) (by repeat (first | exact Fr.refl _ _ | refine Fr.drew ?_ | refine Fr.alloc ?_ _)) (fun _ _ h => h.elim)) (bcells_one b) (by omega) (by simp; omega) ?_; intro a2 c2 w2 ho2 hf2 hm2; have hc2 : w2.cell? ⟨wb, 0, none⟩ = some (.slice a1 now.length c1) := (by rw [hf2.cell (p := ⟨wb, 0, none⟩) (by simp; omega) hw1.out.apart]; go_simp); have hz2 : w2.frozen? ⟨wb, 0, none⟩ = false := (by rw [hf2.frozen (p := ⟨wb, 0, none⟩) (by simp; omega) hw1.out.apart]; go_simp)))
          all_goals
            go_wp2_with fail
            go_meet
            exact VS.step hw1.out hwf1.out hbox.out (by repeat (first | exact Fr.refl _ _ | refine Fr.drew ?_ | refine Fr.alloc ?_ _)) (by simp) (by rw [bcells_append]) (by omega) ho2 hf2 hm2
        case rest =>
          clear b0 b2 hz hw1 hwf1 hbox hbrow hbw hwbl hbxl
          have hnl2 : (now ++ b).length ≤ N + 65546 := by rw [List.length_append]; omega
          have HNW2 := hid (show acc ++ [UInt8.ofNat tag.toNat, 0, 0] ++ numBytes n ++ b = now ++ b by rw [HNW.out])
          generalize now ++ b = now2 at hcut hnl2 HNW2
          obtain ⟨a1, c1, hw1, hwf1, hbox⟩ := hcut
          have b3 : wc.cell? ⟨w.heap.size, 3, none⟩ = some (.slice al l.length cl) := cell_of_heap hbox 3
          have hw1 := hid hw1
          have hwf1 := hid hwf1
          clear hbox
          go_wp2
          clear b3
          go_loopw [67] (fun i wl => ∃ k a2 c2, k ≤ l.length ∧ i = .int .i64 ((k : Nat) : Int) ∧ WS wl wb base a2 c2 (now2 ++ encs (l.take k)) ∧ WF w wb (.slice a acc.length c) wl (.slice a2 (now2 ++ encs (l.take k)).length c2)) (fun i _ => l.length - (intOf i).toNat)
          case atStart => exact ⟨0, a1, c1, by omega, rfl, by rw [List.take_zero, encs, List.append_nil]; exact hw1.out, by rw [List.take_zero, encs, List.append_nil]; exact hwf1.out⟩
          case round =>
            obtain ⟨i, a2, c2, hil, rfl, hw2, hwf2⟩ := hrel
            by_cases hlt : i < l.length
            · have HW2 := hid hw2
              have HWF2 := hid hwf2
              have HSN := hid (show now2 ++ encs (l.take (i + 1)) = now2 ++ encs (l.take i) ++ enc l[i] by rw [encs_snoc hlt, List.append_assoc])
              have hnl3 : (now2 ++ encs (l.take i)).length ≤ N + 65546 + 65535 := by
                have h1 := encs_append (l.take i) (l.drop i)
                rw [List.take_append_drop] at h1
                rw [h1] at he65
                simp only [List.length_append] at he65 ⊢
                omega
              clear hw2 hwf2
              rcases H4.out with h0 | ⟨blk, off, ha, hblk, hSb, hcells⟩
              · omega
              subst ha
              obtain ⟨ec, hec, hk4⟩ := HC.out.get (i := i) (v := l[i]) (List.getElem?_eq_getElem hlt)
              have HEC := hid hec
              have hcw : ∀ j x, ec[j]? = some x → wr.cell? ⟨blk, off + i * 4 + j, none⟩ = some x := fun j x hx => by
                rw [HWF2.out.fr.cell (p := ⟨blk, off + i * 4 + j, none⟩) hblk hSb, Nat.add_assoc]
                exact hcells _ _ (hk4 j x hx)
              have HTV := hid (show TVv (fun k => k = wb ∨ mine (.slice a2 (now2 ++ encs (l.take i)).length c2) k) wr l[i] (.agg ec.toArray) from by
                obtain ⟨_, vb, vl, ks', rfl, _⟩ := hec.cells
                exact ⟨_, _, _, _, rfl, hec.shift HWF2.out.fr (fun _ _ h => h) (fun k hk hs => hs.imp id (fun hm => (HWF2.out.new k hm).resolve_right (by omega)))⟩)
              obtain ⟨hen, evb, evl, eks, rfl, heb, her, _⟩ := hec.cells
              obtain ⟨ea, ecap, rfl, _⟩ := heb
              obtain ⟨_, ea', ecap', rfl, _⟩ := her
              have k0 := hcw 0 _ rfl
              have k1 := hcw 1 _ rfl
              have k2 := hcw 2 _ rfl
              have k3 := hcw 3 _ rfl
              rw [Nat.add_zero] at k0
              have hdl : decide ((i : Int) < (l.length : Int)) = true := by simp; omega
              have hbw : base ≤ wr.heap.size := by have := HWF2.out.fr.size; omega
              have HI := hid (HIN.out i hlt)
              clear hcw hcells hk4 HEC hec
              generalize now2 ++ encs (l.take i) = now3 at HW2 HWF2 HSN hnl3 HTV
              go_wp2_with (go_at_call 49; refine (IH.out (inn_pos HRI.out (by omega)) l[i] _ _ a2 c2 now3 HI.out (HW2.out.fr ((Fr.refl (fun _ => False) wr).alloc _)) (by simp; omega) (by omega) (HTV.out.fr ((Fr.refl (fun _ => False) wr).alloc _) (fun _ _ h => h.elim))).mono ?_; rintro e w3 ⟨rfl, a3, c3, hw3, hwf3⟩)
              have hrel1 : WS w3 wb base a3 c3 (now2 ++ encs (l.take (i + 1))) := by rw [HSN.out]; exact hw3
              have hrel2 : WF w wb (.slice a acc.length c) w3 (.slice a3 (now2 ++ encs (l.take (i + 1))).length c3) := by rw [HSN.out]; exact HWF2.out.trans ((WF.of_fr ((Fr.refl (fun _ => False) wr).alloc _)).trans hwf3)
              go_roundw
              case rel => first | exact ⟨i + 1, a3, c3, by omega, by go_num, hrel1, hrel2⟩ | ((repeat apply Exists.intro); refine ⟨?_, rfl⟩; exact ⟨i + 1, a3, c3, by omega, by go_num, hrel1, hrel2⟩)
              case measure => simp [intOf]; omega
            · obtain rfl : i = l.length := by omega
              have HE := hid (show now2 ++ encs (l.take l.length) = acc ++ ([UInt8.ofNat tag.toNat, 0, 0] ++ (numBytes n ++ b ++ encs l)) by
                rw [List.take_length, ← HNW2.out]; simp only [List.append_assoc])
              rw [HE.out] at hw2 hwf2
              have HB2 := hid (show (TV.mk tag n b l).body = numBytes n ++ b ++ encs l from rfl)
              generalize hbody : numBytes n ++ b ++ encs l = body at hw2 hwf2 HB2
              have hbl2 : body.length ≤ 65535 := by
                obtain ⟨q, hq⟩ := Option.isSome_iff_exists.1 HRI.out
                have h1 := inn_length _ _ _ hq
                have h2 := inn_le hq
                rw [HB2.out] at h1
                omega
              have hlen3 : (acc ++ ([UInt8.ofNat tag.toNat, 0, 0] ++ body)).length = acc.length + 3 + body.length := by simp; omega
              obtain ⟨g, rfl, hgw, hgs, hgf⟩ := hw2.some (by omega)
              have c0 : wr.cell? ⟨wb, 0, none⟩ = some (.slice (some ⟨g, 0, none⟩) (acc.length + 3 + body.length) c2) := by rw [← hlen3]; exact cell_of_heap hw2.heap 0
              have c1' := (Own.cellAt hw2.own (i := acc.length + 1) (by omega)).2
              have c2' := (Own.cellAt hw2.own (i := acc.length + 2) (by omega)).2
              rw [show (bcells (acc ++ ([UInt8.ofNat tag.toNat, 0, 0] ++ body)))[acc.length + 1]? = some (.int .u8 0) by simp [bcells, bcell]] at c1'
              rw [show (bcells (acc ++ ([UInt8.ofNat tag.toNat, 0, 0] ++ body)))[acc.length + 2]? = some (.int .u8 0) by simp [bcells, bcell]] at c2'
              have z1 : wr.frozen? ⟨g, acc.length + 1, none⟩ = false := Own.frozen hw2.own (by omega) _
              have z2 : wr.frozen? ⟨g, acc.length + 2, none⟩ = false := Own.frozen hw2.own (by omega) _
              have HW2 := hid hw2
              have HWF2 := hid hwf2
              have HL3 := hid hlen3
              have HBD := hid hbody
              clear hw2 hwf2 hlen3 hbody
              generalize hbn : body.length = B at *
              have HBN := hid hbn
              clear hbn
              go_wp2
              rw [show ((acc.length : Int) + 3 + (B : Int) - (acc.length : Int) - 3) = (B : Int) by omega]
              have q1 : IntKind.i64.wrap ((acc.length : Int) + 1) = (acc.length : Int) + 1 := IntWalk.i64_in _ (by omega)
              have q2 : IntKind.i64.wrap ((acc.length : Int) + 2) = (acc.length : Int) + 2 := IntWalk.i64_in _ (by omega)
              have q3 : (0 : Int) ≤ (acc.length : Int) + 1 := by omega
              have q4 : (0 : Int) ≤ (acc.length : Int) + 2 := by omega
              have q5 : ((acc.length : Int) + 1).toNat = acc.length + 1 := by omega
              have q6 : ((acc.length : Int) + 2).toNat = acc.length + 2 := by omega
              have q7 : (acc.length : Int) + 1 < (acc.length : Int) + 3 + (B : Int) := by omega
              have q8 : (acc.length : Int) + 2 < (acc.length : Int) + 3 + (B : Int) := by omega
              have q9 : (0 : Int) ≤ (B : Int) := by omega
              have hgw' : ¬ wb = g := fun e => hgw e.symm
              go_region_held3 (fun w' => w'.cell? ⟨wb, 0, none⟩ = some (.slice (some ⟨g, 0, none⟩) (acc.length + 3 + B) c2)) (go_keep) (fail)
              go_end0
              have hx : Value.int .u8 (IntKind.u8.wrap ((B : Int) / 256)) = bcell (UInt8.ofNat (B / 256)) := by
                rw [bcell, UInt8.toNat_ofNat']; simp [IntKind.wrap, IntKind.signed, IntKind.bits]
              have hy : Value.int .u8 (IntKind.u8.wrap (B : Int)) = bcell (UInt8.ofNat (B % 256)) := by
                rw [bcell, UInt8.toNat_ofNat']; simp [IntKind.wrap, IntKind.signed, IntKind.bits]
              rw [hx, hy, enc]
              have hB3 := HBD.out
              rw [hB3, HBN.out]
              have hP := WS.patch HW2.out HWF2.out hgw (UInt8.ofNat (B / 256)) (UInt8.ofNat (B % 256))
              exact ⟨rfl, _, _, hP.1.fr (Fr.refl _ _).drew, hP.2.trans (WF.of_fr (Fr.refl _ _).drew)⟩
end Go.Proofs.YtdbpkiddiehliaaGreat

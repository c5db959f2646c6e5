/- tlv's Right and Put. -/
import Derived.Test.YtdbpkiddiehliaaGreatTlvValue
namespace Go.Proofs.YtdbpkiddiehliaaGreat
open Go Go.RowKit
theorem inner_ok {S : Nat → Prop} : ∀ (d : Nat), d ≤ 100 → ∀ (v : TV) (x : Value) (w : World), TVv S w v x → Calls Tryz.prog 66 #[x, .int .i64 (d : Int)] w (RetI w (innI d v))
  | 0, hd, v, x, w, hv => inner_step 0 hd v x w hv (fun _ _ _ h => absurd rfl h)
  | d + 1, hd, v, x, w, hv => inner_step (d + 1) hd v x w hv (fun v x w _ hv => by
      rw [show (((d + 1 : Nat) : Int) - 1) = (d : Int) by omega]
      exact inner_ok d (by omega) v x w hv)
/-- How many bytes may stand ahead of a value of that depth. -/
def vbound (d : Nat) : Nat := 2000000 - d * 200000
theorem vb_step {d k : Nat} (hd : d + 1 ≤ 8) (h : k ≤ vbound (d + 1) + 65546 + 65535) : k ≤ vbound d := by
  unfold vbound at *; omega
theorem vb_le (d : Nat) : vbound d ≤ 1099511627776 := by unfold vbound; omega
/-- A value's bytes behind those of a writer. -/
theorem value_ok {base : Nat} (d : Nat) (hd : d ≤ 8) : ∀ (v : TV) (x : Value) (w : World) (wb : Nat) (a : Option Addr) (c : Nat) (acc : List UInt8), (inn d v).isSome = true → WS w wb base a c acc → base ≤ w.heap.size → acc.length ≤ vbound d →
    TVv (fun k => k = wb ∨ mine (.slice a acc.length c) k) w v x → Calls Tryz.prog 49 #[.pointer (some ⟨wb, 0, none⟩), x] w (RetW w wb base a c acc (acc ++ enc v)) := by
  induction d with
  | zero =>
    intro v x w wb a c acc hr hw hb hl hv
    obtain ⟨tag, n, b, l⟩ := v
    exact value_step 0 tag n b l x w wb a c acc hr hw hb _ (vb_le 0) hl hv (fun h => absurd rfl h)
  | succ d ih =>
    intro v x w wb a c acc hr hw hb hl hv
    obtain ⟨tag, n, b, l⟩ := v
    exact value_step (d + 1) tag n b l x w wb a c acc hr hw hb _ (vb_le _) hl hv (fun _ v x w a c acc hr hw hb hl hv => ih (by omega) v x w wb a c acc hr hw hb (vb_step hd hl) hv)
set_option maxRecDepth 100000 in
theorem right_ok {S : Nat → Prop} (v : TV) (x : Value) (w : World) (hv : TVv S w v x) : Calls Tryz.prog 48 #[x] w fun e w' => e = .returned (.bool (inn 8 v).isSome) ∧ Below w.heap.size w w' := by
  have HV := hid hv
  obtain ⟨c0, c1, c2, c3, rfl, h⟩ := hv
  cases hi : inn 8 v with
  | none =>
    have HI := hid (show ∀ w', TVv S w' v (.agg #[c0, c1, c2, c3]) → Calls Tryz.prog 66 #[.agg #[c0, c1, c2, c3], .int .i64 8] w' (RetI w' (-1)) from fun w' h => by
      have hh := inner_ok 8 (by omega) v _ w' h
      rwa [show innI 8 v = -1 by rw [innI, hi]] at hh)
    clear hi
    go_enter Tryz.func48, Tryz.ntmps48
    go_wp2_with (go_at_call 66; refine (HI.out _ (HV.out.fr ((Fr.refl (fun _ => False) w).alloc _) (fun _ _ h => h.elim))).mono ?_; rintro e w1 ⟨rfl, hb1⟩)
    go_ret
    exact ⟨rfl, ((Below.refl _ _).alloc (Nat.le_refl _) _).trans (hb1.mono (by simp))⟩
  | some k =>
    have HI := hid (show ∀ w', TVv S w' v (.agg #[c0, c1, c2, c3]) → Calls Tryz.prog 66 #[.agg #[c0, c1, c2, c3], .int .i64 8] w' (RetI w' (k : Int)) from fun w' h => by
      have hh := inner_ok 8 (by omega) v _ w' h
      rwa [show innI 8 v = (k : Int) by rw [innI, hi]] at hh)
    clear hi
    have hk0 : (0 : Int) ≤ (k : Int) := by omega
    go_enter Tryz.func48, Tryz.ntmps48
    go_wp2_with (go_at_call 66; refine (HI.out _ (HV.out.fr ((Fr.refl (fun _ => False) w).alloc _) (fun _ _ h => h.elim))).mono ?_; rintro e w1 ⟨rfl, hb1⟩)
    go_ret
    exact ⟨by simp, ((Below.refl _ _).alloc (Nat.le_refl _) _).trans (hb1.mono (by simp))⟩
/-- A block that is new holds nothing of a value that was there. -/
theorem TVr_new {S : Nat → Prop} {w : World} {v : TV} {x : Value} (h : TVv S w v x) (o : Obj) : TVv (fun k => k = w.heap.size ∨ mine (.slice none ([] : List UInt8).length 0) k) (w.alloc o) v x := by
  obtain ⟨c0, c1, c2, c3, rfl, h⟩ := h
  exact ⟨_, _, _, _, rfl, h.shift ((Fr.refl (fun _ => False) w).alloc o) (fun _ _ h => h.elim) (fun k hk hs => hs.elim (fun e => absurd hk (by omega)) (fun ⟨_, _, _, e, _⟩ => nomatch e))⟩
/-- What Put answers: bytes that were made, and a fault. -/
def RetP (w : World) (r : List UInt8 × Int) (e : Ending) (w' : World) : Prop :=
  ∃ v', e = .returned (.tuple #[v', .int .i64 r.2]) ∧ OwnB w' w.heap.size v' r.1 ∧ Below w.heap.size w w'
set_option maxRecDepth 100000 in
set_option maxHeartbeats 1000000 in
theorem put_ok {S : Nat → Prop} (v : TV) (x : Value) (w : World) (hv : TVv S w v x) : Calls Tryz.prog 33 #[x] w (RetP w (putF v)) := by
  have HV := hid hv
  obtain ⟨c0, c1, c2, c3, rfl, h⟩ := hv
  cases hi : (inn 8 v).isSome with
  | false =>
    have HR := hid (show ∀ w', TVv S w' v (.agg #[c0, c1, c2, c3]) → Calls Tryz.prog 48 #[.agg #[c0, c1, c2, c3]] w' fun e w'' => e = .returned (.bool false) ∧ Below w'.heap.size w' w'' from fun w' h => by
      have hh := right_ok v _ w' h
      rwa [hi] at hh)
    rw [show putF v = ([], 1) by rw [putF, hi]; rfl]
    clear hi
    go_enter Tryz.func33, Tryz.ntmps33
    go_wp2_with (go_at_call 48; refine (HR.out _ (HV.out.fr ((Fr.refl (fun _ => False) w).alloc _) (fun _ _ h => h.elim))).mono ?_; rintro e w1 ⟨rfl, hb1⟩)
    go_ret2
    exact ⟨_, rfl, Own.nil _ _ _ _, ((Below.refl _ _).alloc (Nat.le_refl _) _).trans (hb1.mono (by simp))⟩
  | true =>
    have HR := hid (show ∀ w', TVv S w' v (.agg #[c0, c1, c2, c3]) → Calls Tryz.prog 48 #[.agg #[c0, c1, c2, c3]] w' fun e w'' => e = .returned (.bool true) ∧ Below w'.heap.size w' w'' from fun w' h => by
      have hh := right_ok v _ w' h
      rwa [hi] at hh)
    rw [show putF v = (enc v, 0) by rw [putF, hi]; rfl]
    have HI := hid hi
    clear hi
    obtain ⟨_, evb, evl, eks, hc, heb, her, _⟩ := h.cells
    simp only [List.cons.injEq, and_true] at hc
    obtain ⟨rfl, rfl, rfl, rfl⟩ := hc
    obtain ⟨ea, ecap, rfl, _⟩ := heb
    obtain ⟨_, ea', ecap', rfl, _⟩ := her
    go_enter Tryz.func33, Tryz.ntmps33
    go_wp2_with (go_at_call 48; refine (HR.out _ (HV.out.fr ((Fr.refl (fun _ => False) w).alloc _) (fun _ _ h => h.elim))).mono ?_; rintro e w1 ⟨rfl, hb1⟩; obtain ⟨hc1, hf1⟩ := wold hb1; have hsz1 : w.heap.size < w1.heap.size := (by have := hb1.size; simp at this; omega))
    have HV1 := hid ((HV.out.fr ((Fr.refl (fun _ => False) w).alloc (.cells #[.int .i64 v.tag, .int .u64 (v.num : Int), .slice ea v.byt.length ecap, .slice ea' v.lst.length ecap'] 92)) (fun _ _ h => h.elim)).fr (Fr.of_below (S := fun _ => False) hb1) (fun _ _ h => h.elim))
    have hval := value_ok (base := w1.heap.size + 1) 8 (by omega) v (.agg #[.int .i64 v.tag, .int .u64 (v.num : Int), .slice ea v.byt.length ecap, .slice ea' v.lst.length ecap']) (w1.alloc (.cells #[.slice none 0 0] 113)) w1.heap.size none 0 [] HI.out
      ⟨heap_alloc_new w1 _, Own.nil _ _ _ _, fun ⟨_, _, _, h, _⟩ => nomatch h⟩ (by simp) (Nat.zero_le _) (TVr_new HV1.out _)
    refine hval.mono ?_
    rintro e w2 ⟨rfl, a2, c2, hws, hwf⟩
    rw [List.nil_append] at hws hwf
    have d0 : w2.cell? ⟨w1.heap.size, 0, none⟩ = some (.slice a2 (enc v).length c2) := cell_of_heap hws.heap 0
    have HWS := hid hws
    have HWF := hid hwf
    clear hws hwf
    go_wp2
    go_ret2
    have hB1 : Below w.heap.size w (w1.alloc (.cells #[.slice none 0 0] 113)) := (((Below.refl _ _).alloc (Nat.le_refl _) _).trans (hb1.mono (by simp))).alloc (by omega) _
    refine ⟨_, rfl, Own.mono HWS.out.own (by omega), Below.fr hB1 HWF.out.fr (fun i hi hk => hk.elim (fun e => by omega) (fun ⟨_, _, _, e, _⟩ => nomatch e))⟩
end Go.Proofs.YtdbpkiddiehliaaGreat

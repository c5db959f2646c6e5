/- hayloftref06: Flip. -/
import Derived.Test.YtgehalfnpbjjcaaGreatRefI
import Derived.Test.YtgehalfnpbjjcaaGreatFlip
namespace Go.Proofs.YtgehalfnpbjjcaaGreat
open Go Go.RowKit Go.Sort
def rflip (st : RSt) (n : ByteArray) (i : Int) (u : UInt8) : RSt × Int :=
  if rthere st n ≠ 0 then (st, rthere st n) else if i < 0 ∨ (rlen st (rfind st.seen n) : Int) ≤ i then (st, 1)
  else ({ st with files := rset st.files (rfind st.seen n) fun x => ⟨x.b.modify i.toNat (· ^^^ u), x.safe⟩ }, 0)
set_option maxHeartbeats 1000000 in
set_option maxRecDepth 100000 in
theorem r06Flip_ok {F D : Nat → Prop} {rb : Nat} {st : RSt} (w : World) (h : RSr w F D rb st) (hl : st.seen.length ≤ 1000000) (n : ByteArray) (i : Int) (u : UInt8) :
    Calls Tryz.prog 33 #[.pointer (some ⟨rb, 0, none⟩), .string n, .int .i64 i, bcell u] w fun e w' => e = .returned (.int .i64 (rflip st n i u).2) ∧ ∃ F' D', RSr w' F' D' rb (rflip st n i u).1 ∧ Turn F D F' D' w w' := by
  have HT := hid (r06There_ok w h hl n)
  have hth := fun h0 => rthere_zero h.ok (n := n) h0
  have HR := hid h
  have HTH := hid hth
  clear h hth
  unfold rflip
  generalize rthere st n = A at *
  by_cases hA : A = 0
  · subst hA
    rw [if_neg (by simp)]
    obtain ⟨_, kk, x, hkk, hx⟩ := HTH.out (by first | trivial | rfl)
    have hlen : rlen st (rfind st.seen n) = x.b.length := by unfold rlen; rw [hkk, Int.toNat_natCast, hx]
    rw [hlen]
    obtain ⟨fs, g, cf, fa, fc, a0, c0, va, vc, hat⟩ := HR.out.openAt hx
    have k1 : w.cell? ⟨rb, 1, none⟩ = some (.slice (some ⟨g, 0, none⟩) fs.length cf) := cell_of_heap hat.head 1
    have k2 : w.cell? ⟨rb, 2, none⟩ = some (.slice a0 st.seen.length c0) := cell_of_heap hat.head 2
    have kf := hat.q0
    have HF := hid (r06Find_ok w st.seen hat.body.seen n hl)
    rw [hkk] at HF
    have hkf := (List.getElem?_eq_some_iff.1 hat.at_).1
    have hkf' : (kk : Int) < (fs.length : Int) := by omega
    have hle1 := hat.le1
    have hfit1 := hat.fit.1
    have hfit2 := hat.fit.2.1
    obtain ⟨cur, hg⟩ := hat.blk
    have HAT := hid hat
    have HG := hid hg
    have HX := hid hx
    have HKK := hid hkk
    clear hat hg hx
    unfold bcell
    by_cases hc1 : i < 0
    · rw [if_pos (.inl hc1)]
      have t1 : decide (i < 0) = true := decide_eq_true hc1
      clear hkk hlen
      go_enter Tryz.func33, Tryz.ntmps33
      go_wp2_with (first | (go_at_call 61; refine HT.out.mono ?_; rintro e w1 ⟨rfl, rfl⟩) | (go_at_call 58; refine HF.out.mono ?_; rintro e w2 ⟨rfl, rfl⟩))
      go_ret
      exact ⟨rfl, F, D, HR.out, Turn.refl _ _ _⟩
    · by_cases hc2 : (x.b.length : Int) ≤ i
      · rw [if_pos (.inr hc2)]
        have t1 : decide (i < 0) = false := decide_eq_false hc1
        have t2 : decide ((x.b.length : Int) ≤ i) = true := decide_eq_true hc2
        clear hkk hlen
        go_enter Tryz.func33, Tryz.ntmps33
        go_wp2_with (first | (go_at_call 61; refine HT.out.mono ?_; rintro e w1 ⟨rfl, rfl⟩) | (go_at_call 58; refine HF.out.mono ?_; rintro e w2 ⟨rfl, rfl⟩))
        go_ret
        exact ⟨rfl, F, D, HR.out, Turn.refl _ _ _⟩
      · rw [if_neg (fun h => h.elim hc1 hc2)]
        obtain ⟨j, rfl⟩ : ∃ j : Nat, i = (j : Int) := ⟨i.toNat, by omega⟩
        have hj : j < x.b.length := by omega
        have hset : rset st.files (rfind st.seen n) (fun x => ⟨x.b.modify (j : Int).toNat (· ^^^ u), x.safe⟩) = st.files.set kk ⟨x.b.modify j (· ^^^ u), x.safe⟩ := by
          unfold rset
          rw [hkk, Int.toNat_natCast, modify_set HX.out, Int.toNat_natCast]
        rw [hset]
        clear hset hkk hlen
        have hc1' : ¬ (j : Int) < 0 := by omega
        go_enter Tryz.func33, Tryz.ntmps33
        go_wp2_with fail
        refine HT.out.mono ?_
        rintro e w1 ⟨rfl, rfl⟩
        go_wp2_with fail
        refine HF.out.mono ?_
        rintro e w2 ⟨rfl, rfl⟩
        have hb0 : Below w2.heap.size w2 (w2.alloc (.cells #[] 5)) := (Below.refl _ _).alloc (Nat.le_refl _) _
        have hat0 := HAT.out.below hb0
        have k1a : (w2.alloc (.cells #[] 5)).cell? ⟨rb, 1, none⟩ = some (.slice (some ⟨g, 0, none⟩) fs.length cf) := cell_of_heap hat0.head 1
        have kfa : (w2.alloc (.cells #[] 5)).cell? ⟨g, kk * 2, none⟩ = some (.slice fa x.b.length fc) := hat0.q0
        have HROW := hid (show Row (fun k => D k → F k) (w2.alloc (.cells #[] 5)) (.slice fa x.b.length fc) x.b.length 1 (bcells x.b) from hat0.bs.row)
        clear hat0
        have HB0 := hid hb0
        clear hb0
        have F7 := hid (show ∀ (a7 : Option Addr) (c7 : Nat) (w7 : World), Own w7 w2.heap.size 5 1 (.slice a7 x.b.length c7) x.b.length (bcells x.b) → Below w2.heap.size w2 w7 → ∃ g7, a7 = some ⟨g7, 0, none⟩ ∧ Hid (w2.heap.size ≤ g7) ∧ x.b.length ≤ c7 ∧ c7 ≤ maxLen ∧ w7.cell? ⟨g7, j, none⟩ = some (.int .u8 (x.b[j].toNat : Int)) ∧ w7.frozen? ⟨g7, j, none⟩ = false ∧ w7.cell? ⟨rb, 1, none⟩ = some (.slice (some ⟨g, 0, none⟩) fs.length cf) ∧ w7.cell? ⟨g, kk * 2, none⟩ = some (.slice fa x.b.length fc) ∧ w7.frozen? ⟨g, kk * 2, none⟩ = false ∧ rb ≠ g7 ∧ g ≠ g7 ∧ g7 ≠ g from fun a7 c7 w7 ho hb => by
          have hcl := (Own.len ho)
          obtain ⟨hl0, ⟨h0, _⟩ | ⟨g7, cap, cur7, hgv, hgb, hgh, hgn, hgz, hgt⟩⟩ := id ho
          · omega
          injection hgv with e1 _ e3
          subst e1 e3
          have hat7 := HAT.out.below hb
          obtain ⟨cur8, hg8⟩ := hat7.blk
          have hrl := lt_of_heap HAT.out.head
          have hgl := lt_of_heap HG.out
          have kg : w7.cell? ⟨g7, j, none⟩ = some (.int .u8 (x.b[j].toNat : Int)) := by
            have h9 := (Own.cellAt ho (i := j) (by omega)).2
            rw [h9]
            unfold bcells
            rw [List.getElem?_map, List.getElem?_eq_getElem hj]
            rfl
          exact ⟨g7, rfl, hid hgb, hgn.1, hgn.2.2, kg, frozen_of hgh j, cell_of_heap hat7.head 1, hat7.q0, frozen_of hg8 _, by omega, by omega, by omega⟩)
        have hxor : bits .xor .u8 (x.b[j].toNat : Int) (u.toNat : Int) = ((x.b[j] ^^^ u).toNat : Int) := by
          rw [u8_xor_nat _ _ x.b[j].toNat_lt u.toNat_lt, UInt8.toNat_xor]
        go_wp2_with (at_builtin; refine wpl_append (S := fun k => D k → F k) (base := w2.heap.size) (n := 0) (xs := []) (news := bcells x.b) (m := x.b.length) rfl rfl etB rfl (own_empty _ _ _ _ _) rfl HROW.out (bcells_one _) (by omega) (by simp) ?_; intro v7 w7 ho7 hf7 hm7; rw [Nat.zero_add, List.nil_append] at ho7; obtain ⟨a7, c7, rfl, _⟩ := ho7.len; have hb7 : Below w2.heap.size w2 w7 := Below.fr HB0.out hf7 (fun i hi hm => by obtain ⟨off, m, c, hv, hc⟩ := hm; injection hv with _ _ e3; exact hc e3.symm); obtain ⟨g7, rfl, y1, y2, y3, y4, y5, y6, y7, y8, y9, y10, y11⟩ := F7.out _ _ _ ho7 hb7; have HO7 := hid ho7; have HB7 := hid hb7; clear ho7 hf7 hm7 hb7)
        go_ret
        obtain ⟨w8, hw8⟩ : ∃ w8, w7.setCell ⟨g7, j, none⟩ (bcell (x.b[j] ^^^ u)) = w8 := ⟨_, rfl⟩
        have hf8 : Fr (· = g7) w7 w8 := by rw [← hw8]; exact (Fr.refl (· = g7) w7).setCell (fun _ => rfl) _
        obtain ⟨_, ho8⟩ := Own.store HO7.out j (by omega) (bcell (x.b[j] ^^^ u))
        rw [set_byte hj, hw8] at ho8
        have hb8 : Below w2.heap.size w2 w8 := Below.fr HB7.out hf8 (fun i hi e => by have := y1.out; omega)
        show _ ∧ ∃ F' D', RSr ((w7.setCell ⟨g7, j, none⟩ (bcell (x.b[j] ^^^ u))).setCell ⟨g, kk * 2 + 0, none⟩ (.slice (some ⟨g7, 0, none⟩) x.b.length c7)) F' D' rb _ ∧ Turn F D F' D' w2 ((w7.setCell ⟨g7, j, none⟩ (bcell (x.b[j] ^^^ u))).setCell ⟨g, kk * 2 + 0, none⟩ (.slice (some ⟨g7, 0, none⟩) x.b.length c7))
        rw [hw8]
        have hxo := HR.out.ok.fil x (List.mem_of_getElem? HX.out)
        have hat8 := (HAT.out.grow (D' := fun k => D k ∨ (w2.heap.size ≤ k ∧ k < w8.heap.size)) (fun _ h => .inl h)).below hb8
        have hbs8 : Bs (fun k => (D k ∨ (w2.heap.size ≤ k ∧ k < w8.heap.size)) → F k) w8 (.slice (some ⟨g7, 0, none⟩) x.b.length c7) (x.b.modify j (· ^^^ u)) := Bs.of_row (ho8.row (fun k h1 h2 hS => by have := HR.out.ltF (hS (.inr ⟨h1, h2⟩)); omega))
        have hxl : (x.b.modify j (· ^^^ u)).length = x.b.length := by simp
        obtain ⟨h1, h2⟩ := hat8.shut HR.out.ok (v' := .slice (some ⟨g7, 0, none⟩) x.b.length c7) (y := ⟨x.b.modify j (· ^^^ u), x.safe⟩) hbs8 ⟨hxo.1, by show x.safe ≤ (((x.b.modify j (· ^^^ u)).length : Nat) : Int); rw [hxl]; exact hxo.2.1, by show (x.b.modify j (· ^^^ u)).length ≤ 99000; rw [hxl]; exact hxo.2.2⟩ (j := 0) (by decide) (u := .slice (some ⟨g7, 0, none⟩) x.b.length c7) rfl (fun k hk => hk.elim (fun h => Nat.lt_of_lt_of_le (HR.out.lt k h) hb8.size) (fun h => h.2))
        exact ⟨rfl, F, _, h1, ((Fr.of_below hb8 : Fr (fun _ => False) w2 w8).mono (S' := F) (fun _ _ h => h.elim)).trans h2, fun _ h => .inl h, fun k h => h.imp id (fun h => h.1)⟩
  · have t1 : (A != 0) = true := by simpa using hA
    rw [if_pos hA]
    unfold bcell
    go_enter Tryz.func33, Tryz.ntmps33
    go_wp2_with (go_at_call 61; refine HT.out.mono ?_; rintro e w1 ⟨rfl, rfl⟩)
    go_ret
    exact ⟨rfl, F, D, HR.out, Turn.refl _ _ _⟩
end Go.Proofs.YtgehalfnpbjjcaaGreat

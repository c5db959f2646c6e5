/- A map laid bare whose keys are strings is a map that the world owns: its keys, for the library's sort. -/
import Derived.Test.YtgehalfnpbjjcaaMapG2
import Derived.Sort.KeysCollected
import Derived.StringKeys
namespace Go.Proofs.Ytgehalfnpbjjcaa
open Go Go.RowKit Go.MapKept Go.WideShapes
open Go.WideElems (Fit rd rg pl rd_key rd_val rg_of other_key)
theorem MapG.owns {β : Type} {P : Program} {tk : TypeId} {ev : β → Value} (u_tk : P.underlying tk = some .string) {w : World} {m : Nat} {d : List (ByteArray × β)} (h : MapG Value.string ev w m d) (hlen : ∀ p ∈ d, p.1.size ≤ maxLen) (hn : d.length ≤ maxLen) :
    ∃ D0 : DataW Unit, w.ownsMap P tk (fun _ => some (.nil, [])) m d.length D0 ∧ (strKeys D0).Perm (d.map fun p => p.1.data.toList) ∧ Maps.size D0 = d.length := by
  obtain ⟨es, clock, h1, h2, h3, h4, h5⟩ := h
  have hsz : es.size = d.length := by have := congrArg List.length h2; simpa using this
  have hk : ∀ x ∈ es.toList, ∃ p ∈ d, x.key = .string p.1 := fun x hx => by
    obtain ⟨j, hj⟩ := List.getElem?_of_mem hx
    obtain ⟨k, v, g1, g2, _⟩ := entry_at h2 hj
    exact ⟨_, List.mem_of_getElem? g1, g2⟩
  have hrd : ∀ x ∈ es.toList, ∀ s, x.key = .string s → rd P tk (fun _ => some ((.nil : DataW Unit), [])) x = some (.string s.data.toList, .nil) := fun x hx s hs => by
    obtain ⟨p, hp, e⟩ := hk x hx
    rw [hs] at e
    injection e with e
    subst e
    unfold rd
    rw [hs, Go.WideMaps.keyOf_string_mk u_tk (hlen p hp)]
    rfl
  have hkeys : es.toList.map (·.key) = (d.map Prod.fst).map Value.string := by
    have := congrArg (List.map Prod.fst) h2
    simpa [List.map_map, Function.comp_def] using this
  have hpw : es.toList.Pairwise (fun x y => x.key ≠ y.key) := by
    have : (es.toList.map (·.key)).Nodup := by
      rw [hkeys]
      exact List.pairwise_map.2 (h5.imp (fun hne e => hne (by injection e)))
    exact List.pairwise_map.1 this
  have hst : (es.toList.map fun x => strOf (rg P tk (fun _ => some ((.nil : DataW Unit), [])) x).1) = d.map fun p => p.1.data.toList := by
    have e1 : (es.toList.map fun x => strOf (rg P tk (fun _ => some ((.nil : DataW Unit), [])) x).1) = (es.toList.map (·.key)).map (fun v => match v with | .string s => s.data.toList | _ => []) := by
      rw [List.map_map]
      refine List.map_congr_left fun x hx => ?_
      obtain ⟨p, hp, e⟩ := hk x hx
      rw [rg_of (hrd x hx _ e)]
      simp only [Function.comp, e]
      rfl
    rw [e1, hkeys, List.map_map, List.map_map]
    rfl
  refine ⟨_, ⟨es, clock, h1, ⟨by rw [hsz]; exact hn, (stamped_iff es clock).2 ⟨h3, h4, hpw⟩, fun x hx => ?_⟩, by rw [hsz]; exact Nat.le_refl _, rfl⟩, ?_, ?_⟩
  · obtain ⟨p, hp, e⟩ := hk x hx
    exact ⟨_, hrd x hx _ e⟩
  · rw [← hst]
    have hp := (sorted_perm (es.toList.map (rg P tk (fun _ => some ((.nil : DataW Unit), []))))).map (fun p => strOf p.1)
    rw [List.map_map] at hp
    exact hp
  · rw [← hsz]
    simp [Maps.size, length_sorted]
end Go.Proofs.Ytgehalfnpbjjcaa

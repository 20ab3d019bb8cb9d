/-
  Names, found, made and renamed.
  No condition beyond those that each theorem names.
-/
import Derived.Test.YtgobllfkiannfaaSxw
set_option linter.unusedSimpArgs false
open Go.Sx
namespace Go.Proofs.Ytgobllfkiannfaa
theorem nget_new {ns : List (Byts × Int)} {a : Byts} {f : Int} (h : nget ns a = Option.none) : nget (ns ++ [(a, f)]) a = some f := by
  unfold nget at h ⊢
  rw [List.find?_append]
  cases hf : ns.find? fun x => decide (x.1 = a) with
  | some x => rw [hf] at h; cases h
  | none => simp
theorem nset_new {a : Byts} {f : Int} : ∀ {ns : List (Byts × Int)}, nget ns a = Option.none → nset ns a f = ns ++ [(a, f)]
  | [], _ => rfl
  | x :: r, h => by
    unfold nget at h
    rw [List.find?_cons] at h
    by_cases hx : x.1 = a
    · simp [hx] at h
    · simp only [decide_eq_false hx] at h
      simp only [nset, if_neg hx, List.cons_append]
      rw [nset_new h]
theorem nget_nset_ne {s t : Byts} {f : Int} (h : t ≠ s) : ∀ {ns : List (Byts × Int)}, nget (nset ns s f) t = nget ns t
  | [] => by
    have : ¬ s = t := fun e => h e.symm
    simp [nset, nget, this]
  | x :: r => by
    have ih := nget_nset_ne (s := s) (t := t) (f := f) h (ns := r)
    have hst : ¬ s = t := fun e => h e.symm
    simp only [nset]
    split
    · rename_i e
      unfold nget
      rw [List.find?_cons, List.find?_cons, decide_eq_false hst, decide_eq_false (fun e' => hst (e ▸ e'))]
    · unfold nget at ih ⊢
      rw [List.find?_cons, List.find?_cons]
      by_cases hx : x.1 = t
      · simp [hx]
      · simp only [decide_eq_false hx]; exact ih
theorem nset_mem {s : Byts} {f : Int} : ∀ {ns : List (Byts × Int)}, ∀ u ∈ nset ns s f, u = (s, f) ∨ u ∈ ns
  | [], u, h => by simp [nset] at h; exact .inl h
  | x :: r, u, h => by
    simp only [nset] at h
    split at h
    · rcases List.mem_cons.1 h with rfl | h
      · exact .inl rfl
      · exact .inr (List.mem_cons_of_mem _ h)
    · rcases List.mem_cons.1 h with rfl | h
      · exact .inr List.mem_cons_self
      · rcases nset_mem u h with h | h
        · exact .inl h
        · exact .inr (List.mem_cons_of_mem _ h)
theorem nget_mem {ns : List (Byts × Int)} {s : Byts} {f : Int} (h : nget ns s = some f) : (s, f) ∈ ns := by
  unfold nget at h
  obtain ⟨u, hu, rfl⟩ := Option.map_eq_some_iff.1 h
  have h1 := List.mem_of_find?_eq_some hu
  have h2 := List.find?_some hu
  simp at h2
  rw [← h2]; exact h1
end Go.Proofs.Ytgobllfkiannfaa

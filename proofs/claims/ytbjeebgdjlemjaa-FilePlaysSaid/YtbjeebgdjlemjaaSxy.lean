/-
 The disk of chapter 7: a crash.
 No condition beyond those that each theorem names.
-/
import Derived.Test.YtbjeebgdjlemjaaSxw
set_option linter.unusedVariables false
set_option linter.unusedSimpArgs false
/-! The disk in memory: its block is built anew; other objects turn; ranges over maps. -/
namespace Go.Sx
/-! ### Crashes -/
def keepL (keep : List Bool) : Nat → List Stp → FS → FS
 | _,[],s => s
 | i,x :: r,s => keepL keep (i + 1) r (if keep.getD i false then s.does x else s)
def heldF (s : FS) : Int → List Byts := fun k => if k ∈ s.names.map (·.2) then s.files k else []
def Dsk.crash (d : Dsk) (keep : List Bool) : Dsk :=
 let s := keepL keep 0 d.steps d.safe
 { d with safe := ⟨s.names,heldF s⟩,now := ⟨s.names,heldF s⟩,steps := [],down := false,arm := 0,fault := 0 }
theorem keepL_snoc (keep : List Bool) (x : Stp) : ∀ (l : List Stp) (i : Nat) (s : FS), keepL keep i (l ++ [x]) s = if keep.getD (i + l.length) false then (keepL keep i l s).does x else keepL keep i l s
  | [], i, s => by simp [keepL]
  | a :: l, i, s => by
    simp only [List.cons_append, keepL, List.length_cons, keepL_snoc keep x l]
    rw [show i + 1 + l.length = i + (l.length + 1) by omega]
theorem keepL_V (keep : List Bool) : ∀ {l : List Stp} {i : Nat} {s : FS}, s.V → (∀ x ∈ l, x.V) → (keepL keep i l s).V
  | [], i, s, h, _ => h
  | a :: l, i, s, h, hl => by
    simp only [keepL]
    refine keepL_V keep ?_ fun x hx => hl x (List.mem_cons_of_mem _ hx)
    split
    · exact h.does (hl a List.mem_cons_self)
    · exact h
theorem picks_all {α : Type} {kv : α} {r' : List α} : ∀ {l : List α}, (kv, r') ∈ picks l → kv ∈ l ∧ (∀ e ∈ l, e = kv ∨ e ∈ r') ∧ (∀ e ∈ r', e ∈ l) ∧ r'.length + 1 = l.length
  | [], h => by cases h
  | x :: l, h => by
    rcases List.mem_cons.1 h with h | h
    · cases h
      exact ⟨List.mem_cons_self, fun e he => List.mem_cons.1 he, fun e he => List.mem_cons_of_mem _ he, rfl⟩
    · obtain ⟨p, hp, e⟩ := List.mem_map.1 h
      cases e
      obtain ⟨h1, h2, h3, h4⟩ := picks_all (kv := p.1) (r' := p.2) hp
      refine ⟨List.mem_cons_of_mem _ h1, fun e he => ?_, fun e he => ?_, by simp only [List.length_cons]; omega⟩
      · rcases List.mem_cons.1 he with rfl | he
        · exact .inr List.mem_cons_self
        · rcases h2 e he with h | h
          · exact .inl h
          · exact .inr (List.mem_cons_of_mem _ h)
      · rcases List.mem_cons.1 he with rfl | he
        · exact List.mem_cons_self
        · exact List.mem_cons_of_mem _ (h3 e he)
theorem nextK_of {w : AW} {b m : Nat} {es es' rest : List (AV × AV)} {c : Nat} {last : Option AV} {A : Prop} {B : AV → AV → AW → Prop} (hm : Mem w) (hg : w.get b = some (.mapIter (some m) es c rest last)) (hma : mapAt w m = some (es', c)) (hA : rest = [] → A)
    (hB : ∀ k v rest', (k, v) ∈ rest → (∀ e ∈ rest, e = (k, v) ∨ e ∈ rest') → (∀ e ∈ rest', e ∈ rest) → rest'.length < rest.length → ∀ w', Ch [b] w w' → w'.size = w.size → w'.get b = some (.mapIter (some m) es c rest' (some (.tup [k, v]))) → B k v w') : nextK w b A B := by
  unfold nextK
  rw [hg]
  refine ⟨⟨es', hma⟩, ?_⟩
  cases rest with
  | nil => exact hA rfl
  | cons a l =>
    intro kv rest' hp
    obtain ⟨h1, h2, h3, h4⟩ := picks_all hp
    exact hB kv.1 kv.2 rest' h1 h2 h3 (by omega) _ (Ch.set hm (hm.lt _ _ hg) fun cs f own d e => by cases e) rfl (by rw [AW.set_get, if_pos rfl])
end Go.Sx

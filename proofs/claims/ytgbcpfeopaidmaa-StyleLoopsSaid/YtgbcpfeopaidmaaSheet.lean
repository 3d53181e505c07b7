/-
  Sheets of styles as lists of names with parents: what a definition makes of one keeps every walk upwards finite.
-/
import Derived.Test.YtgbcpfeopaidmaaEngI4
set_option linter.all false
namespace Go.Eng.Sheet

abbrev K := List UInt8
abbrev Sh := List (K × K)

def parOf : Sh → K → Option K
  | [], _ => none
  | (a, p) :: s, k => if k = a then some p else parOf s k
def putP (n p : K) : Sh → Sh
  | [] => [(n, p)]
  | (a, q) :: s => if n = a then (n, p) :: s else (a, q) :: putP n p s
def keys (s : Sh) : List K := s.map (·.1)

inductive Ends (s : Sh) : K → Nat → Prop
  | nil : Ends s [] 0
  | step {k p : K} {n : Nat} (hk : k ≠ []) (hp : parOf s k = some p) (h : Ends s p n) : Ends s k (n + 1)
inductive Free (s : Sh) (n : K) : K → Prop
  | nil : Free s n []
  | step {k p : K} (hk : k ≠ []) (hn : k ≠ n) (hp : parOf s k = some p) (h : Free s n p) : Free s n k

theorem par_put (n p k : K) : ∀ s : Sh, parOf (putP n p s) k = if k = n then some p else parOf s k
  | [] => by simp [putP, parOf]
  | (a, q) :: s => by
    have ih := par_put n p k s
    simp only [putP]
    by_cases hn : n = a
    · subst hn
      simp only [if_true, parOf]
      split <;> rfl
    · simp only [hn, if_false, parOf, ih]
      by_cases hk : k = a
      · subst hk
        simp [Ne.symm hn]
      · simp [hk]

theorem par_mem {k p : K} : ∀ {s : Sh}, parOf s k = some p → (k, p) ∈ s
  | [], h => by simp [parOf] at h
  | (a, q) :: s, h => by
    simp only [parOf] at h
    split at h
    · rename_i hk; simp only [Option.some.injEq] at h; subst h; subst hk; simp
    · exact List.mem_cons_of_mem _ (par_mem h)
theorem par_key {k p : K} {s : Sh} (h : parOf s k = some p) : k ∈ keys s := List.mem_map.2 ⟨_, par_mem h, rfl⟩
theorem key_par {k : K} : ∀ {s : Sh}, k ∈ keys s → ∃ p, parOf s k = some p
  | [], h => by simp [keys] at h
  | (a, q) :: s, h => by
    simp only [parOf]
    by_cases hk : k = a
    · exact ⟨q, by simp [hk]⟩
    · have : k ∈ keys s := by simpa [keys, hk] using h
      obtain ⟨p, hp⟩ := key_par this
      exact ⟨p, by simp [hk, hp]⟩

theorem keys_put (n p : K) : ∀ s : Sh, keys (putP n p s) = if n ∈ keys s then keys s else keys s ++ [n]
  | [] => by simp [putP, keys]
  | (a, q) :: s => by
    have ih := keys_put n p s
    simp only [putP]
    by_cases hn : n = a
    · subst hn; simp [keys]
    · rw [if_neg hn]
      have : keys ((a, q) :: putP n p s) = a :: keys (putP n p s) := rfl
      rw [this, ih]
      have h2 : keys ((a, q) :: s) = a :: keys s := rfl
      rw [h2]
      by_cases hm : n ∈ keys s
      · simp [hm]
      · simp [hm, hn]

theorem Ends.det {s : Sh} {k : K} {a : Nat} (h : Ends s k a) : ∀ {b : Nat}, Ends s k b → a = b := by
  induction h with
  | nil =>
    intro b hb
    cases hb with
    | nil => rfl
    | step hk _ _ => exact absurd rfl hk
  | step hk hp h ih =>
    intro b hb
    cases hb with
    | nil => exact absurd rfl hk
    | step _ hp' h' =>
      rw [hp] at hp'
      simp only [Option.some.injEq] at hp'
      subst hp'
      rw [ih h']

theorem Free.ends {s : Sh} {n p k : K} (h : Free s n k) : ∃ m, Ends (putP n p s) k m := by
  induction h with
  | nil => exact ⟨0, .nil⟩
  | step hk hn hp _ ih =>
    obtain ⟨m, hm⟩ := ih
    exact ⟨m + 1, .step hk (by rw [par_put, if_neg hn]; exact hp) hm⟩
theorem ends_put {s : Sh} {n p k : K} {m : Nat} (hn : n ≠ []) (hf : Free s n p) (h : Ends s k m) : ∃ m', Ends (putP n p s) k m' := by
  induction h with
  | nil => exact ⟨0, .nil⟩
  | @step k q j hk hp _ ih =>
    by_cases hkn : k = n
    · subst hkn
      obtain ⟨m, hm⟩ := hf.ends (p := p)
      exact ⟨m + 1, .step hk (by rw [par_put, if_pos rfl]) hm⟩
    · obtain ⟨m, hm⟩ := ih
      exact ⟨m + 1, .step hk (by rw [par_put, if_neg hkn]; exact hp) hm⟩

theorem nodup_len {α : Type} [DecidableEq α] : ∀ (l r : List α), l.Nodup → (∀ x ∈ l, x ∈ r) → l.length ≤ r.length
  | [], r, _, _ => by simp
  | a :: l, r, hn, h => by
    have ha := h a (by simp)
    rw [List.nodup_cons] at hn
    have := nodup_len l (r.erase a) hn.2 fun x hx => by
      have hne : x ≠ a := fun e => hn.1 (e ▸ hx)
      exact (List.mem_erase_of_ne hne).2 (h x (by simp [hx]))
    rw [List.length_erase_of_mem ha] at this
    have hpos : 0 < r.length := List.length_pos_of_mem ha
    simp only [List.length_cons]
    omega

theorem ends_chain {s : Sh} {k : K} {m : Nat} (h : Ends s k m) : ∃ l : List K, l.length = m ∧ l.Nodup ∧ ∀ x ∈ l, x ∈ keys s ∧ ∃ j, j ≤ m ∧ Ends s x j := by
  induction h with
  | nil => exact ⟨[], rfl, .nil, by simp⟩
  | @step k p n hk hp h ih =>
    obtain ⟨l, h1, h2, h3⟩ := ih
    have hself : Ends s k (n + 1) := .step hk hp h
    refine ⟨k :: l, by simp [h1], List.nodup_cons.2 ⟨fun hkl => ?_, h2⟩, fun x hx => ?_⟩
    · obtain ⟨_, j, hj, he⟩ := h3 k hkl
      have := hself.det he
      omega
    · rcases List.mem_cons.1 hx with rfl | hx
      · exact ⟨par_key hp, n + 1, Nat.le_refl _, hself⟩
      · obtain ⟨q1, j, hj, he⟩ := h3 x hx
        exact ⟨q1, j, by omega, he⟩
theorem ends_le {s : Sh} {k : K} {m : Nat} (h : Ends s k m) : m ≤ s.length := by
  obtain ⟨l, h1, h2, h3⟩ := ends_chain h
  have := nodup_len l (keys s) h2 fun x hx => (h3 x hx).1
  simp [keys] at this
  omega

structure Inv (s : Sh) : Prop where
  nodup : (keys s).Nodup
  ne : ∀ k ∈ keys s, k ≠ [] ∧ k.length ≤ 16
  par : ∀ k p, parOf s k = some p → p = [] ∨ p ∈ keys s
  ends : ∀ k ∈ keys s, ∃ m, Ends s k m
  len : s.length ≤ 32

theorem Inv.nil : Inv [] := ⟨.nil, by simp [keys], by simp [parOf], by simp [keys], by simp⟩

theorem Inv.put {s : Sh} (h : Inv s) {n p : K} (hn : n ≠ []) (hl : n.length ≤ 16) (hp : p = [] ∨ p ∈ keys s) (hf : Free s n p) (hr : n ∈ keys s ∨ s.length < 32) : Inv (putP n p s) := by
  have hk := keys_put n p s
  have hmem : ∀ k, k ∈ keys (putP n p s) ↔ k = n ∨ k ∈ keys s := by
    intro k
    rw [hk]
    split
    · rename_i hin
      constructor
      · exact fun h => .inr h
      · rintro (rfl | h)
        · exact hin
        · exact h
    · simp only [List.mem_append, List.mem_singleton]
      exact or_comm
  refine ⟨?_, fun k hk' => ?_, fun k q hq => ?_, fun k hk' => ?_, ?_⟩
  · rw [hk]
    split
    · exact h.nodup
    · rename_i hin
      exact List.nodup_append.2 ⟨h.nodup, by simp, fun a ha b hb => by simp at hb; subst hb; exact fun e => hin (e ▸ ha)⟩
  · rcases (hmem k).1 hk' with rfl | hk'
    · exact ⟨hn, hl⟩
    · exact h.ne k hk'
  · rw [par_put] at hq
    have : q = [] ∨ q ∈ keys s := by
      split at hq
      · simp only [Option.some.injEq] at hq; subst hq; exact hp
      · exact h.par k q hq
    rcases this with h' | h'
    · exact .inl h'
    · exact .inr ((hmem q).2 (.inr h'))
  · rcases (hmem k).1 hk' with rfl | hk'
    · obtain ⟨m, hm⟩ := hf.ends (p := p)
      exact ⟨m + 1, .step hn (by rw [par_put, if_pos rfl]) hm⟩
    · obtain ⟨m, hm⟩ := h.ends k hk'
      exact ends_put hn hf hm
  · have h1 : (putP n p s).length = (keys (putP n p s)).length := by simp [keys]
    have h2 : s.length = (keys s).length := by simp [keys]
    rw [h1, hk]
    split
    · rw [← h2]; exact h.len
    · rename_i hin
      rcases hr with hr | hr
      · exact absurd hr hin
      · simp only [List.length_append, List.length_singleton]
        omega

end Go.Eng.Sheet

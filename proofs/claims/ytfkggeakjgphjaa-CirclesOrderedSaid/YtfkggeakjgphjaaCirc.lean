/- Circles, in plain words: from which flows one is come to, in how many steps; the circle that is told. No program. -/
import Derived.KernelRfl
namespace Go.Proofs.Circ
set_option linter.unusedVariables false
set_option linter.unusedSimpArgs false

/-- to is come to from x in n steps. -/
def Wk (all : Nat → List Nat) (to : Nat) : Nat → Nat → Prop
  | 0, x => x = to
  | n + 1, x => ∃ y, y ∈ all x ∧ Wk all to n y
/-- in n steps, and in no fewer (but none). -/
def Ls (all : Nat → List Nat) (to n x : Nat) : Prop := Wk all to n x ∧ ∀ m, 1 ≤ m → m < n → ¬ Wk all to m x

theorem ls_least {all : Nat → List Nat} {to n x : Nat} (h1 : 1 ≤ n) (h : Wk all to n x) : ∃ m, 1 ≤ m ∧ m ≤ n ∧ Ls all to m x := by
  induction n using Nat.strongRecOn with
  | _ n ih =>
    by_cases hc : ∃ m, 1 ≤ m ∧ m < n ∧ Wk all to m x
    · obtain ⟨m, a, b, c⟩ := hc
      obtain ⟨k, p, q, r⟩ := ih m b a c
      exact ⟨k, p, by omega, r⟩
    · exact ⟨n, h1, Nat.le_refl _, h, fun m a b c => hc ⟨m, a, b, c⟩⟩
theorem ls_one {all : Nat → List Nat} {to n m x : Nat} (h1 : 1 ≤ n) (h2 : 1 ≤ m) (h : Ls all to n x) (k : Ls all to m x) : n = m := by
  rcases Nat.lt_trichotomy n m with a | a | a
  · exact absurd h.1 (k.2 n h1 a)
  · exact a
  · exact absurd k.1 (h.2 m h2 a)
theorem ls_step {all : Nat → List Nat} {to n x : Nat} (h : Ls all to (n + 1) x) : ∃ y, y ∈ all x ∧ (n = 0 ∧ y = to ∨ 1 ≤ n ∧ Ls all to n y) := by
  obtain ⟨⟨y, hy, hw⟩, hl⟩ := h
  refine ⟨y, hy, ?_⟩
  cases n with
  | zero => exact .inl ⟨rfl, hw⟩
  | succ n =>
    refine .inr ⟨by omega, hw, fun m h1 h2 h3 => hl (m + 1) (by omega) (by omega) ⟨y, hy, h3⟩⟩
theorem wk_add {all : Nat → List Nat} {to x y : Nat} : ∀ {n m : Nat}, Wk all y n x → Wk all to m y → Wk all to (n + m) x
  | 0, m, h, k => by
    obtain rfl : x = y := h
    rw [Nat.zero_add]; exact k
  | n + 1, m, ⟨z, hz, h⟩, k => by
    rw [Nat.add_right_comm]
    exact ⟨z, hz, wk_add h k⟩

/-- one round: those that are not seen yet and that need one of the edge. -/
def nx (all : Nat → List Nat) (many : Nat) (seen edge : List Nat) : List Nat := (List.range many).filter fun f => !(seen.contains f) && (all f).any fun x => edge.contains x
def bfs (all : Nat → List Nat) (many : Nat) : Nat → Nat → List Nat → List Nat → List (Nat × Nat)
  | 0, _, _, _ => []
  | k + 1, s, seen, edge => if edge = [] then [] else (nx all many seen edge).map (fun x => (x, s)) ++ bfs all many k (s + 1) (seen ++ nx all many seen edge) (nx all many seen edge)
def reach (all : Nat → List Nat) (many to : Nat) : List (Nat × Nat) := bfs all many (many + 2) 1 [] [to]
/-- a row of pairs as a map: the last one counts. -/
def look (l : List (Nat × Nat)) : Int → Option Nat := l.foldl (fun f p => fun m => if m = (p.1 : Int) then some p.2 else f m) (fun _ => none)
theorem look_snoc (l : List (Nat × Nat)) (p : Nat × Nat) : look (l ++ [p]) = fun m => if m = (p.1 : Int) then some p.2 else look l m := by simp [look]

theorem mem_nx {all : Nat → List Nat} {many : Nat} {seen edge : List Nat} {x : Nat} : x ∈ nx all many seen edge ↔ x < many ∧ x ∉ seen ∧ ∃ y, y ∈ all x ∧ y ∈ edge := by
  simp [nx]
theorem nx_nodup (all : Nat → List Nat) (many : Nat) (seen edge : List Nat) : (nx all many seen edge).Nodup := (List.nodup_range).filter _

/-- what is seen ahead of round s, and the edge of that round. -/
structure At (all : Nat → List Nat) (many to s : Nat) (seen edge : List Nat) : Prop where
  pos : 1 ≤ s
  sn : ∀ x, x ∈ seen ↔ x < many ∧ ∃ m, 1 ≤ m ∧ m < s ∧ Ls all to m x
  ed : ∀ x, x ∈ edge ↔ (s = 1 ∧ x = to) ∨ (1 < s ∧ x < many ∧ Ls all to (s - 1) x)
  nd : seen.Nodup

theorem At.start (all : Nat → List Nat) (many to : Nat) : At all many to 1 [] [to] :=
  ⟨Nat.le_refl _, fun x => by simp; omega, fun x => by simp, List.nodup_nil⟩
theorem At.mem {all : Nat → List Nat} {many to s : Nat} {seen edge : List Nat} (hin : ∀ x y, y ∈ all x → y < many) (h : At all many to s seen edge) (x : Nat) : x ∈ nx all many seen edge ↔ x < many ∧ Ls all to s x := by
  rw [mem_nx]
  have hp := h.pos
  constructor
  · rintro ⟨hx, hs, y, hy, he⟩
    have hw : Wk all to s x := by
      rcases (h.ed y).1 he with ⟨e1, e2⟩ | ⟨e1, _, e3⟩
      · subst e1; exact ⟨y, hy, e2⟩
      · have : s = (s - 1) + 1 := by omega
        rw [this]; exact ⟨y, hy, e3.1⟩
    refine ⟨hx, hw, fun m h1 h2 h3 => hs ((h.sn x).2 ⟨hx, ?_⟩)⟩
    obtain ⟨k, p, q, r⟩ := ls_least h1 h3
    exact ⟨k, p, by omega, r⟩
  · rintro ⟨hx, hl⟩
    refine ⟨hx, fun hs => ?_, ?_⟩
    · obtain ⟨_, m, h1, h2, h3⟩ := (h.sn x).1 hs
      exact hl.2 m h1 h2 h3.1
    · obtain ⟨k, rfl⟩ : ∃ k, s = k + 1 := ⟨s - 1, by omega⟩
      obtain ⟨y, hy, h2⟩ := ls_step hl
      refine ⟨y, hy, (h.ed y).2 ?_⟩
      rcases h2 with ⟨e, e2⟩ | ⟨e, e2⟩
      · exact .inl ⟨by omega, e2⟩
      · exact .inr ⟨by omega, hin x y hy, e2⟩
theorem At.next {all : Nat → List Nat} {many to s : Nat} {seen edge : List Nat} (hin : ∀ x y, y ∈ all x → y < many) (h : At all many to s seen edge) : At all many to (s + 1) (seen ++ nx all many seen edge) (nx all many seen edge) := by
  have hp := h.pos
  refine ⟨by omega, fun x => ?_, fun x => ?_, ?_⟩
  · rw [List.mem_append, h.mem hin, h.sn]
    constructor
    · rintro (⟨a, m, b, c, d⟩ | ⟨a, b⟩)
      · exact ⟨a, m, b, by omega, d⟩
      · exact ⟨a, s, hp, by omega, b⟩
    · rintro ⟨a, m, b, c, d⟩
      rcases Nat.lt_or_ge m s with e | e
      · exact .inl ⟨a, m, b, e, d⟩
      · obtain rfl : m = s := by omega
        exact .inr ⟨a, d⟩
  · rw [h.mem hin]
    constructor
    · rintro ⟨a, b⟩
      exact .inr ⟨by omega, a, b⟩
    · rintro (⟨a, b⟩ | ⟨a, b, c⟩)
      · omega
      · exact ⟨b, c⟩
  · rw [List.nodup_append]
    refine ⟨h.nd, nx_nodup _ _ _ _, fun a ha b hb e => ?_⟩
    subst e
    exact (mem_nx.1 hb).2.1 ha
theorem nodup_lt_length : ∀ (many : Nat) (l : List Nat), l.Nodup → (∀ x ∈ l, x < many) → l.length ≤ many := by
  intro many l hn hl
  have h1 : l ⊆ List.range many := fun x hx => List.mem_range.2 (hl x hx)
  have := hn.length_le_of_subset h1
  simpa using this
/-- each round but the last one finds some more. -/
theorem At.short {all : Nat → List Nat} {many to s : Nat} {seen edge : List Nat} (h : At all many to s seen edge) (hl : s ≤ seen.length + 1) : s ≤ many + 1 := by
  have := nodup_lt_length many seen h.nd (fun x hx => ((h.sn x).1 hx).1)
  omega

/-- what bfs tells of x. -/
theorem bfs_look {all : Nat → List Nat} {many to : Nat} (hin : ∀ x y, y ∈ all x → y < many) : ∀ (k s : Nat) (seen edge : List Nat) (pre : List (Nat × Nat)), At all many to s seen edge → (edge ≠ [] → s ≤ seen.length + 1) → many + 2 ≤ seen.length + k + (if edge = [] then many + 2 else 0) →
    (∀ x n, look pre (x : Nat) = some n ↔ x < many ∧ 1 ≤ n ∧ n < s ∧ Ls all to n x) → (∀ x n, look (pre ++ bfs all many k s seen edge) (x : Nat) = some n ↔ x < many ∧ 1 ≤ n ∧ Ls all to n x) := by
  intro k
  induction k with
  | zero =>
    intro s seen edge pre h hl hk hp x n
    have he : edge = [] := by
      apply Classical.byContradiction
      intro he
      rw [if_neg he] at hk
      have := nodup_lt_length many seen h.nd (fun x hx => ((h.sn x).1 hx).1)
      omega
    rw [bfs, List.append_nil, hp]
    constructor
    · rintro ⟨a, b, c, d⟩; exact ⟨a, b, d⟩
    · rintro ⟨a, b, d⟩
      refine ⟨a, b, ?_, d⟩
      -- no further ones
      apply Classical.byContradiction
      intro hge
      have key : ∀ j x, x < many → ¬ Ls all to (s + j) x := by
        intro j
        induction j with
        | zero =>
          intro x hx hls
          have hp1 := h.pos
          obtain ⟨y, hy, h2⟩ := ls_step (n := s - 1) (by rw [Nat.sub_add_cancel hp1]; exact hls)
          have : y ∈ edge := (h.ed y).2 (by
            rcases h2 with ⟨e, e2⟩ | ⟨e, e2⟩
            · exact .inl ⟨by omega, e2⟩
            · exact .inr ⟨by omega, hin x y hy, e2⟩)
          rw [he] at this; simp at this
        | succ j ih =>
          intro x hx hls
          obtain ⟨y, hy, h2⟩ := ls_step (n := s + j) hls
          have hp1 := h.pos
          rcases h2 with ⟨e, e2⟩ | ⟨e, e2⟩
          · omega
          · exact ih y (hin x y hy) e2
      exact key (n - s) x a (by rw [show s + (n - s) = n by omega]; exact d)
  | succ k ih =>
    intro s seen edge pre h hl hk hp
    by_cases he : edge = []
    · intro x n
      rw [bfs, if_pos he, List.append_nil, hp]
      constructor
      · rintro ⟨a, b, c, d⟩; exact ⟨a, b, d⟩
      · rintro ⟨a, b, d⟩
        refine ⟨a, b, ?_, d⟩
        apply Classical.byContradiction
        intro hge
        have key : ∀ j x, x < many → ¬ Ls all to (s + j) x := by
          intro j
          induction j with
          | zero =>
            intro x hx hls
            have hp1 := h.pos
            obtain ⟨y, hy, h2⟩ := ls_step (n := s - 1) (by rw [Nat.sub_add_cancel hp1]; exact hls)
            have : y ∈ edge := (h.ed y).2 (by
              rcases h2 with ⟨e, e2⟩ | ⟨e, e2⟩
              · exact .inl ⟨by omega, e2⟩
              · exact .inr ⟨by omega, hin x y hy, e2⟩)
            rw [he] at this; simp at this
          | succ j ih =>
            intro x hx hls
            obtain ⟨y, hy, h2⟩ := ls_step (n := s + j) hls
            have hp1 := h.pos
            rcases h2 with ⟨e, e2⟩ | ⟨e, e2⟩
            · omega
            · exact ih y (hin x y hy) e2
        exact key (n - s) x a (by rw [show s + (n - s) = n by omega]; exact d)
    · rw [bfs, if_neg he, ← List.append_assoc]
      rw [if_neg he] at hk
      refine ih (s + 1) _ _ _ (h.next hin) (fun hne => ?_) ?_ ?_
      · have : 0 < (nx all many seen edge).length := List.length_pos_iff.2 hne
        have := hl he
        simp; omega
      · split
        · omega
        · rename_i hne
          have : 0 < (nx all many seen edge).length := List.length_pos_iff.2 hne
          simp; omega
      · have hlk : ∀ (l : List Nat) (pre : List (Nat × Nat)) (x : Nat), look (pre ++ l.map fun x => (x, s)) (x : Nat) = if x ∈ l then some s else look pre (x : Nat) := by
          intro l
          induction l with
          | nil => intro pre x; simp
          | cons a l ih =>
            intro pre x
            rw [List.map_cons, show pre ++ (a, s) :: l.map (fun x => (x, s)) = (pre ++ [(a, s)]) ++ l.map (fun x => (x, s)) by simp, ih, look_snoc]
            by_cases h1 : x ∈ l
            · simp [h1]
            · by_cases h2 : x = a
              · subst h2; simp [h1]
              · have h3 : (x : Int) ≠ (a : Int) := by omega
                simp [h1, h2, h3]
        intro x n
        rw [hlk]
        by_cases hx : x ∈ nx all many seen edge
        · have h2 := (h.mem hin x).1 hx
          rw [if_pos hx]
          constructor
          · intro e
            injection e with e
            subst e
            exact ⟨h2.1, h.pos, by omega, h2.2⟩
          · rintro ⟨a, b, c, d⟩
            rw [ls_one b h.pos d h2.2]
        · rw [if_neg hx, hp]
          constructor
          · rintro ⟨a, b, c, d⟩; exact ⟨a, b, by omega, d⟩
          · rintro ⟨a, b, c, d⟩
            refine ⟨a, b, ?_, d⟩
            rcases Nat.lt_or_ge n s with e | e
            · exact e
            · obtain rfl : n = s := by omega
              exact absurd ((h.mem hin x).2 ⟨a, d⟩) hx

/-- how far x is from to (0: it is not come to). -/
def far (all : Nat → List Nat) (many to : Nat) (x : Nat) : Nat := (look (reach all many to) (x : Nat)).getD 0
theorem look_far {all : Nat → List Nat} {many to : Nat} (hin : ∀ x y, y ∈ all x → y < many) (x n : Nat) : look (reach all many to) (x : Nat) = some n ↔ x < many ∧ 1 ≤ n ∧ Ls all to n x := by
  have := bfs_look (to := to) hin (many + 2) 1 [] [to] [] (At.start all many to) (fun _ => by simp) (by simp) (fun x n => by simp [look]; omega) x n
  simpa [reach] using this
theorem far_pos {all : Nat → List Nat} {many to : Nat} (hin : ∀ x y, y ∈ all x → y < many) (x n : Nat) (hn : 1 ≤ n) : far all many to x = n ↔ x < many ∧ Ls all to n x := by
  unfold far
  cases h : look (reach all many to) (x : Nat) with
  | none =>
    simp only [Option.getD_none]
    constructor
    · intro e; omega
    · rintro ⟨a, b⟩
      have := (look_far hin x n).2 ⟨a, hn, b⟩
      rw [h] at this; cases this
  | some m =>
    have h2 := (look_far hin x m).1 h
    simp only [Option.getD_some]
    constructor
    · intro e; subst e; exact ⟨h2.1, h2.2.2⟩
    · rintro ⟨a, b⟩
      exact ls_one h2.2.1 hn h2.2.2 b
theorem far_zero {all : Nat → List Nat} {many to : Nat} (hin : ∀ x y, y ∈ all x → y < many) (x : Nat) (hx : x < many) : far all many to x = 0 ↔ ∀ n, 1 ≤ n → ¬ Wk all to n x := by
  constructor
  · intro h n h1 h2
    obtain ⟨m, a, b, c⟩ := ls_least h1 h2
    have := (far_pos hin x m a).2 ⟨hx, c⟩
    omega
  · intro h
    apply Classical.byContradiction
    intro hne
    have := (far_pos hin x (far all many to x) (by omega)).1 rfl
    exact h _ (by omega) this.2.1

/-- the way on from at, n steps. -/
def path (all : Nat → List Nat) (f : Nat → Nat) : Nat → Nat → List Nat
  | 0, _ => []
  | n + 1, at_ => match (all at_).find? (fun x => f x == n + 1) with
    | some y => y :: path all f n y
    | none => []
/-- the circle that is told. -/
def circ (all : Nat → List Nat) (many : Nat) : List Nat :=
  match (List.range many).find? (fun f => far all many f f != 0) with
  | some f => f :: path all (far all many f) (far all many f f - 1) f
  | none => []
end Go.Proofs.Circ

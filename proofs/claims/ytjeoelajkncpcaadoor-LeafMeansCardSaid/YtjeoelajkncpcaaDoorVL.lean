/- Small laws for conditions: calls, tests, whole numbers within bounds. No condition of its own. -/
import Derived.Test.YtjeoelajkncpcaaDoorV22
import Derived.Test.YtjeoelajkncpcaaDoorPD
namespace Go.Proofs.YtjeoelajkncpcaaDoor.V
open Go
set_option linter.unusedVariables false

theorem ok_of {B : Base} {g : Cfg} {f : FuncId} {args : List EV} {out : Shape} {R : out.Val → Prop} {C : Prop} (e : g.fnK f args out R = C) (hb : g.toBase = B) (h : C) : FnE B f args out R := by rw [← hb]; exact fn_sound (e.mpr h)

theorem callP_eq {c : Base} {f : FuncId} {ins out : Shape} {x : ins.Val} {K : out.Val → Prop} {v : out.Val} (h : FnE c f (ins.compsE x) out (· = v)) (k : K v) : callP c f ins out x K := ⟨_, h, fun r e => by rw [e]; exact k⟩

theorem callP_of {c : Base} {f : FuncId} {ins out : Shape} {x : ins.Val} {K : out.Val → Prop} {R : out.Val → Prop} (h : FnE c f (ins.compsE x) out R) (k : ∀ r, R r → K r) : callP c f ins out x K := ⟨_, h, k⟩

theorem gcall_eq {α β : Type} {g : α → Option β} {x : α} {K : β → Prop} {r : β} (h : g x = some r) (k : K r) : gcall g x K := ⟨r, h, k⟩

theorem FnE.mono {c : Base} {f : FuncId} {args : List EV} {out : Shape} {R R' : out.Val → Prop} (h : FnE c f args out R) (k : ∀ r, R r → R' r) : FnE c f args out R' :=
  ⟨h.1, fun m w us ht hh hr => (h.2 m w us ht hh hr).mono fun e w' ⟨v, m', h1, h2, h3, h4, r, h5, h6⟩ => ⟨v, m', h1, h2, h3, h4, r, k r h5, h6⟩⟩

theorem cond_dec {p : Prop} [Decidable p] {A B : Prop} (h : p → A) (k : ¬ p → B) : cond (decide p) A B := by
  by_cases q : p
  · simp only [q, decide_true, cond_true]; exact h q
  · simp only [q, decide_false, cond_false]; exact k q

theorem cond_bool {b : Bool} {A B : Prop} (h : b = true → A) (k : b = false → B) : cond b A B := by
  cases b
  · exact k rfl
  · exact h rfl

theorem cond_not {b : Bool} {A B : Prop} (h : b = false → A) (k : b = true → B) : cond (!b) A B := by
  cases b
  · exact h rfl
  · exact k rfl

theorem cond_yes {b : Bool} {A B : Prop} (h : b = true) (k : A) : cond b A B := by rw [h]; exact k
theorem cond_no {b : Bool} {A B : Prop} (h : b = false) (k : B) : cond b A B := by rw [h]; exact k

/-- A number that an int64 holds. -/
abbrev inI (n : Int) : Prop := -9223372036854775808 ≤ n ∧ n ≤ 9223372036854775807

theorem w64_of {n : Int} (h : -9223372036854775808 ≤ n ∧ n ≤ 9223372036854775807) : w64 n = n := by
  unfold w64
  rw [IntKind.wrap_i64]
  omega

theorem tdiv_of {a b : Int} (h : 0 ≤ a) : Int.tdiv a b = a / b := Int.tdiv_eq_ediv_of_nonneg h
theorem tmod_of {a b : Int} (h : 0 ≤ a) : Int.tmod a b = a % b := Int.tmod_eq_emod_of_nonneg h
theorem tmod_neg {a b : Int} (ha : a < 0) (hb : 1 ≤ b) : Int.tmod a b = if a % b = 0 then 0 else a % b - b := by
  rw [Int.tmod_eq_emod]
  have h0 : ¬ (0 ≤ a) := by omega
  by_cases h : a % b = 0
  · have hd : b ∣ a := Int.dvd_of_emod_eq_zero h
    simp [h0, hd, h]
  · have hd : ¬ b ∣ a := fun q => h (Int.emod_eq_zero_of_dvd q)
    simp only [h0, hd, or_self, if_false, h]
    omega
theorem tdiv_neg {a b : Int} (ha : a < 0) (hb : 1 ≤ b) : Int.tdiv a b = if a % b = 0 then a / b else a / b + 1 := by
  rw [Int.tdiv_eq_ediv]
  have h0 : ¬ (0 ≤ a) := by omega
  by_cases h : a % b = 0
  · have hd : b ∣ a := Int.dvd_of_emod_eq_zero h
    simp [h0, hd, h]
  · have hd : ¬ b ∣ a := fun q => h (Int.emod_eq_zero_of_dvd q)
    simp only [h0, hd, or_self, if_false, h]
    rw [Int.sign_eq_one_of_pos (by omega)]

/-- An equation of whole numbers, seen as one. -/
theorem ie {a b : Int} (h : a = b) : @Eq (Shape.int .i64).Val a b := h

/-- Loops by a number that grows less. -/
theorem loopP_of {S : Type} {F : S → (S → Prop) → Prop} (I : S → Prop) (μ : S → Nat) (hF : ∀ s (A : S → Prop), I s → (∀ s', I s' → μ s' < μ s → A s') → F s A) {s : S} (h : I s) : loopP F s := by
  have key : ∀ n s, I s → μ s < n → loopN F n s := by
    intro n
    induction n with
    | zero => intro s _ h; omega
    | succ n ih =>
      intro s hI hn
      exact hF s _ hI fun s' h1 h2 => ih s' h1 (by omega)
  exact ⟨μ s + 1, key _ s h (Nat.lt_succ_self _)⟩
end Go.Proofs.YtjeoelajkncpcaaDoor.V

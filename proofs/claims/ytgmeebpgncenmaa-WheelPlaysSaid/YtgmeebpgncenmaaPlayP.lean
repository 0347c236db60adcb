/- A wheel and the document's side by side. -/
import Derived.Test.YtgmeebpgncenmaaAwake
import Derived.Test.YtgmeebpgncenmaaRf4
namespace Go.Proofs.Ytgmeebpgncenmaa
open Go.RowKit

section
variable {w : World} {q now added : Nat} {F : Nat → Prop} {L L' : List Tm}
def RAddE (w : World) (q now : Nat) (F : Nat → Prop) (L' : List Tm) (r : Int) (e : Ending) (w' : World) : Prop := e = .returned (.int .i64 r) ∧ RWh w' q (Fn F w) now L' ∧ Fr F w w'
theorem radd_any (h : RWh w q F now L) (hl : L.length ≤ 1000) (hnow : now < 1152921504606846976) {id a r : Int} {added' : Nat} (hr : AddRes now added L id a r added' L') :
    Calls Try.prog 15 #[.pointer (some ⟨q, 0, none⟩), .int .i64 id, .int .i64 a] w (RAddE w q now F L' r) := by
  rcases hr with ⟨hno, rfl, rfl⟩ | ⟨rfl, h1, h2, h3, h4, rfl, rfl⟩
  · refine (radd_no h hl id a r hno).mono ?_
    rintro e w' ⟨rfl, rfl⟩
    exact ⟨rfl, h.mono fun i _ hi => .inl hi, Fr.refl _ _⟩
  · have := radd_ok h h4 hnow id a.toNat (added + 1) (by omega) (by omega) h3
    rw [Int.toNat_of_nonneg (by omega)] at this
    exact this
def RCanE (w : World) (q now : Nat) (F : Nat → Prop) (L' : List Tm) (r : Bool) (e : Ending) (w' : World) : Prop := e = .returned (.bool r) ∧ RWh w' q (Fn F w) now L' ∧ Fr F w w'
theorem rcan_any (h : RWh w q F now L) (hl : L.length ≤ 1000) (hids : L.Pairwise fun x y => x.id ≠ y.id) {id : Int} {r : Bool} (hr : CanRes L id r L') :
    Calls Try.prog 17 #[.pointer (some ⟨q, 0, none⟩), .int .i64 id] w (RCanE w q now F L' r) := by
  rcases hr with ⟨rfl, rfl, hno⟩ | ⟨rfl, t, ht, rfl, rfl⟩
  · refine (rcan_no h hl id hno).mono ?_
    rintro e w' ⟨rfl, rfl⟩
    exact ⟨rfl, h.mono fun i _ hi => .inl hi, Fr.refl _ _⟩
  · exact rcan_yes h hl hids t ht
/-- What Left answers. -/
def LeftRes (L : List Tm) (now : Nat) (id v : Int) (is : Bool) : Prop := ((∀ t, t ∈ L → t.id ≠ id) ∧ v = 0 ∧ is = false) ∨ ∃ t, t ∈ L ∧ t.id = id ∧ v = (t.due : Int) - (now : Int) ∧ is = true
theorem left_ex (L : List Tm) (now : Nat) (id : Int) : ∃ v is, LeftRes L now id v is := by
  by_cases h : ∃ t, t ∈ L ∧ t.id = id
  · obtain ⟨t, h1, h2⟩ := h
    exact ⟨_, _, .inr ⟨t, h1, h2, rfl, rfl⟩⟩
  · exact ⟨_, _, .inl ⟨fun t h1 h2 => h ⟨t, h1, h2⟩, rfl, rfl⟩⟩
theorem whl_left {b : Nat} (h : Whl w b F now added L) (hnow : now < 1152921504606846976) {id v : Int} {is : Bool} (hid : I64 id) (hr : LeftRes L now id v is) :
    Calls Try.prog 20 #[.pointer (some ⟨b, 0, none⟩), .int .i64 id] w fun e w' => e = .returned (.tuple #[.int .i64 v, .bool is]) ∧ Fr (fun _ => False) w w' := by
  rcases hr with ⟨hno, rfl, rfl⟩ | ⟨t, ht, rfl, rfl, rfl⟩
  · exact whl_left_no h id hid.1 hid.2 hno
  · exact whl_left_yes h hnow t ht
theorem rleft (h : RWh w q F now L) (hl : L.length ≤ 1000) (hids : L.Pairwise fun x y => x.id ≠ y.id) (hnow : now < 1152921504606846976) (hd : ∀ t, t ∈ L → t.due ≤ now + 4352) {id v : Int} {is : Bool} (hr : LeftRes L now id v is) :
    Calls Try.prog 21 #[.pointer (some ⟨q, 0, none⟩), .int .i64 id] w fun e w' => e = .returned (.tuple #[.int .i64 v, .bool is]) ∧ Fr (fun _ => False) w w' := by
  rcases hr with ⟨hno, rfl, rfl⟩ | ⟨t, ht, rfl, rfl, rfl⟩
  · exact rleft_no h hl id hno
  · exact rleft_yes h hl hids t ht (by have := hd t ht; omega) (by omega)
end

theorem AddRes.len2 {now added added' : Nat} {L L' : List Tm} {id a r : Int} (h : AddRes now added L id a r added' L') : added' ≤ added + 1 := by
  rcases h with ⟨_, rfl, rfl⟩ | ⟨_, _, _, _, _, rfl, rfl⟩ <;> omega

/-- A wheel in which L waits, the document's in which L' waits, apart; gx is apart of both. -/
def PSt (w : World) (b q gx now added : Nat) (L : List Tm) (now' : Nat) (L' : List Tm) (wx : World) : Prop :=
  ∃ G : Nat → Prop, (∀ i, G i → w.heap.size ≤ i ∧ i < wx.heap.size ∧ i ≠ gx) ∧ Whl wx b (fun i => w.heap.size ≤ i ∧ ¬ G i ∧ i ≠ gx) now added L ∧ RWh wx q G now' L' ∧ Below w.heap.size w wx
section
variable {w wx w' : World} {b q gx now added now' now2 added2 : Nat} {L L' L2 : List Tm}
theorem PSt.fr0 (h : PSt w b q gx now added L now' L' wx) (f : Fr (fun _ => False) wx w') : PSt w b q gx now added L now' L' w' := by
  obtain ⟨G, h1, h2, h3, h4⟩ := h
  exact ⟨G, fun i hi => ⟨(h1 i hi).1, Nat.lt_of_lt_of_le (h1 i hi).2.1 f.size, (h1 i hi).2.2⟩, h2.fr0 f, h3.fr0 f, below_fr h4 f h4.size fun _ h => h.elim⟩
theorem PSt.clear (h : PSt w b q gx now added L now' L' wx) : PSt w b q wx.heap.size now added L now' L' wx := by
  obtain ⟨G, h1, h2, h3, h4⟩ := h
  exact ⟨G, fun i hi => ⟨(h1 i hi).1, (h1 i hi).2.1, by have := (h1 i hi).2.1; omega⟩, h2.mono fun i hl hi => ⟨hi.1, hi.2.1, by omega⟩, h3, h4⟩
/-- What the wheel's call may turn. -/
theorem PSt.whl (h : PSt w b q gx now added L now' L' wx) (hgx : gx < wx.heap.size) : ∃ F : Nat → Prop, Whl wx b F now added L ∧ ¬ F gx ∧
    ∀ w' now2 added2 L2, Whl w' b (Fn F wx) now2 added2 L2 → Fr F wx w' → PSt w b q gx now2 added2 L2 now' L' w' := by
  obtain ⟨G, h1, h2, h3, h4⟩ := h
  refine ⟨_, h2, fun h => h.2.2 rfl, fun w' now2 added2 L2 hw f => ⟨G, fun i hi => ⟨(h1 i hi).1, Nat.lt_of_lt_of_le (h1 i hi).2.1 f.size, (h1 i hi).2.2⟩, hw.mono fun i _ hi => ?_, h3.fr f fun i hi hF => hF.2.1 hi, below_fr h4 f h4.size fun i hi => hi.1⟩⟩
  rcases hi with hi | hi
  · exact hi
  · exact ⟨Nat.le_trans h4.size hi, fun hg => by have := (h1 i hg).2.1; omega, by omega⟩
/-- What the document's call may turn. -/
theorem PSt.ref (h : PSt w b q gx now added L now' L' wx) : ∃ G : Nat → Prop, RWh wx q G now' L' ∧ ¬ G gx ∧ (∀ g n rc xs, Own wx 3 1 (some ⟨g, 0, none⟩) n rc xs → ¬ G g) ∧
    ∀ w' now2 L2, gx < wx.heap.size → RWh w' q (Fn G wx) now2 L2 → Fr G wx w' → PSt w b q gx now added L now2 L2 w' := by
  obtain ⟨G, h1, h2, ⟨A, c, hb, ho, hq, hA⟩, h4⟩ := h
  have hsub : ∀ i, (i = q ∨ A = some ⟨i, 0, none⟩) → G i := by
    rintro i (rfl | h)
    · exact hq
    · exact hA i h
  refine ⟨fun i => i = q ∨ A = some ⟨i, 0, none⟩, ⟨A, c, hb, ho, .inl rfl, fun g hg => .inr hg⟩, fun h => (h1 gx (hsub gx h)).2.2 rfl, ?_, fun w' now2 L2 hgx hr f => ⟨fun i => Fn G wx i ∧ i < w'.heap.size, fun i hi => ?_, ?_, hr.mono fun i hl hi => ⟨hi.imp_left (hsub i), hl⟩, below_fr h4 f h4.size fun i hi => (h1 i (hsub i hi)).1⟩⟩
  · rintro g n rc xs hO (rfl | h)
    · exact hO.block_ne hb (by decide) rfl
    · exact hO.ne_own ho (by decide) rfl h
  · rcases hi.1 with h5 | h5
    · exact ⟨(h1 i h5).1, hi.2, (h1 i h5).2.2⟩
    · exact ⟨Nat.le_trans h4.size h5, hi.2, by omega⟩
  · have h6 : Whl wx b (fun i => (w.heap.size ≤ i ∧ ¬ G i ∧ i ≠ gx) ∧ i < wx.heap.size) now added L := h2.mono fun i hl hi => ⟨hi, hl⟩
    refine (h6.fr f fun i hi h => hi.1.2.1 (hsub i h)).mono fun i _ hi => ⟨hi.1.1, fun hG => ?_, hi.1.2.2⟩
    rcases hG.1 with h7 | h7
    · exact hi.1.2.1 h7
    · have := hi.2; omega
theorem PSt.below (h : PSt w b q gx now added L now' L' wx) : Below w.heap.size w wx := by
  obtain ⟨G, h1, h2, h3, h4⟩ := h
  exact h4
end
/-- Behind j steps. -/
def PLaw (w : World) (b q j : Nat) (wx : World) : Prop := ∃ (gx now added : Nat) (L : List Tm), PSt w b q gx now added L now L wx ∧ now ≤ 600 * j ∧ added ≤ j
end Go.Proofs.Ytgmeebpgncenmaa

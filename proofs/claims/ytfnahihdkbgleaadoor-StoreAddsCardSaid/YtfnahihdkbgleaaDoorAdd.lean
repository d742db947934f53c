/- store.Add, in the printed form. -/
import Derived.Test.YtfnahihdkbgleaaDoorCopied
import Derived.Test.YtfnahihdkbgleaaDoorHas
import Derived.Test.YtfnahihdkbgleaaDoorE1
import Derived.Deep.RegionLaw
import Derived.Deep.AppendLies
namespace Go.Proofs.YtfnahihdkbgleaaDoor.Z
set_option linter.unusedVariables false
open Go.RowKit Go.Proofs.YtfnahihdkbgleaaDoorW.PrintWords Go.Proofs.YtfnahihdkbgleaaDoorW.PrintWords.Kd
/-- One item behind the others, at a step of a region that draws its order. -/
theorem item_step (w W : World) {ops : Array Oper} {o : Oper} {a : Act} {K : Act → World → Prop} {Q : Exit → Act → World → Prop} {E : Prop} (hgd : o.guard = none) (s xo : Operand)
    (ho : o.op = .call { callee := .builtin .append, args := #[s, xo], argTypes := #[27, 27] }) (l m : List It) (x : It) (hm : m = l ++ [x]) (hlen : m.length ≤ 1000000000000) (v : Value) (hs : a.eval s = v) (B : Nat)
    (hx : a.eval xo = .slice (some ⟨B, 0, none⟩) 1 1) (A2 : Option Addr) (c2 : Nat) (hl2 : x.f2.length ≤ c2) (hx2 : Kd.C (Kd.int .u8) w A2 x.f2.length x.f2) (HO : OwnRow (k29.K w) 29 3 W w.heap.size v l)
    (hblk : W.heap[B]? = some (.cells #[.int .u8 x.f0, .string x.f1, .slice A2 x.f2.length c2] 29 (0, 0))) (hb : Below w.heap.size w W)
    (h : ∀ A c w1, Kd.C k29 w1 A m.length m → m.length ≤ c → Below w.heap.size w w1 → K (a.put o.dst (.slice A m.length c)) w1) :
    if Region.wanted o (yielded ops a.tmps) = true then Oper.wp Tryd.prog o a W K Q else E := by
  obtain ⟨i0, hi, hz0, hz1, hz2⟩ := info29
  obtain ⟨inner, hown, hreps⟩ := HO
  have hml : m.length = l.length + 1 := by rw [hm]; simp
  refine step_append_lies W hgd s xo _ ho w.heap.size 29 i0 _ 3 48 Tryd.underlying27 hi hz0 hz1 hz2 rfl (by decide) v l.length inner hs hown ⟨B, 0, none⟩ 1 1 [.int .u8 x.f0, .string x.f1, .slice A2 x.f2.length c2] hx rfl
    (World.news_of_block hblk) (by intro u hu; simp only [List.mem_cons, List.not_mem_nil, or_false] at hu; rcases hu with rfl | rfl | rfl <;> rfl) (by decide) (by unfold maxLen; omega) (by omega) hb.size _ rfl ?_
  intro g cap w1 hown1 hg1 _ _
  have hb1 : Below w.heap.size w w1 := hb.grown hg1 hb.size (fun k hk => own_base hown k hk)
  have hO1 : OwnRow (k29.K w) 29 3 w1 w.heap.size (.slice (some ⟨g, 0, none⟩) (l.length + 1) cap) m := by
    subst hm
    exact ⟨_, by simpa using hown1, hreps.snoc (k29_mk w x hl2 hx2) rfl⟩
  obtain ⟨A', c', he, hle, hrd⟩ := hO1.reads
  rw [he]
  exact h A' c' w1 (hrd.imp_ (Below.refl _ _) (fun _ _ hp => k29.K_below hb1 hp)) hle hb1
/-- What Add answers. -/
def addL (l : List It) (x : It) : List It × Int :=
  if fineB x then (if hasB l x.f1 then ([], 8) else if (l ++ [x]).length > 256 ∨ (fileL (l ++ [x])).length > 1048576 then ([], 3) else (l ++ [x], 0)) else ([], 2)
set_option maxHeartbeats 800000 in
set_option maxRecDepth 100000 in
theorem add_calls (l m : List It) (x : It) (hm : m = l ++ [x]) (hall : ItAll m) (hby : ∀ y ∈ m, y.f2.length ≤ 140737488355328) (hfl : fineB x = true → m.length ≤ 256 → (fileL m).length ≤ 140737488355328)
    (A0 : Option Addr) (c0 : Nat) (A2 : Option Addr) (c2 : Nat) (w : World) (hG : Gl w) (hr : Kd.C k29 w A0 l.length l) (hc : l.length ≤ c0) (hr2 : Kd.C (Kd.int .u8) w A2 x.f2.length x.f2) (hl2 : x.f2.length ≤ c2) :
    Calls Tryd.prog 9 #[.slice A0 l.length c0, .agg #[.int .u8 x.f0, .string x.f1, .slice A2 x.f2.length c2]] w fun e w' => (∃ v, e = .returned (.tuple #[v, .int .i64 (addL l x).2]) ∧ Kd.S k29 29 w' w.heap.size (fun _ => True) v (addL l x).1) ∧ Below w.heap.size w w' := by
  have hu := Tryd.underlying29
  have hmf : ∀ (fn : Fn) (first cap : Array Value) (w : World), (Instr.makeFunc fn first cap).run Tryd.prog w = .ok (.func fn first cap) w := fun _ _ _ _ => rfl
  have hml : m.length = l.length + 1 := by rw [hm]; simp
  have hlen : m.length ≤ 1000000000000 := hall.2
  have hba : Below w.heap.size w (w.alloc (.cells #[.int .u8 x.f0, .string x.f1, .slice A2 x.f2.length c2] 29)) := (Below.refl _ _).alloc (Nat.le_refl _) _
  have hbk := blk_new w (.cells #[.int .u8 x.f0, .string x.f1, .slice A2 x.f2.length c2] 29)
  have HFN := Lib.hid (fun W => fine_calls x A2 c2 W)
  have HR := Lib.hid hr
  have HR2 := Lib.hid hr2
  have HB := Lib.hid hba
  have HK := Lib.hid hbk
  have HAL := Lib.hid hall
  have HBY := Lib.hid hby
  have HG := Lib.hid hG
  clear hr hr2 hba hbk hall hby hG
  cases hf : fineB x
  · rw [hf] at HFN
    have HA : Hid (addL l x = ([], 2)) := Lib.hid (by unfold addL; rw [hf]; rfl)
    clear hf hfl
    go_enter Tryd.func9, Tryd.ntmps9
    go_wp2_with (go_at_call 13; refine (HFN.out _).mono ?_; rintro e w1 ⟨rfl, hb1⟩)
    go_ret2
    rw [HA.out]
    exact ⟨⟨_, rfl, Kd.S_nil _ _ _ _ _⟩, below_step HB.out (by assumption)⟩
  · rw [hf] at HFN
    have HFL := Lib.hid (hfl hf)
    have hhas := fun W Wb => has_calls l x.f1 w.heap.size (by omega) A0 c0 W (Kd.C_below HR.out Wb) hc
    have HH := Lib.hid hhas
    clear hhas hfl
    cases hh : hasB l x.f1
    · rw [hh] at HH
      have HA : Hid (addL l x = if m.length > 256 ∨ (fileL m).length > 1048576 then ([], 3) else (m, 0)) := Lib.hid (by unfold addL; rw [hf, hh, ← hm]; rfl)
      clear hf hh
      go_enter Tryd.func9, Tryd.ntmps9
      go_wp2_with fail
      refine (HFN.out _).mono ?_
      rintro e w1 ⟨rfl, hb1⟩
      have HK1 := Lib.hid (blk_below HK.out hb1)
      have HB1 := Lib.hid (below_step HB.out hb1)
      clear hb1
      have hs1 : w1.cell? ⟨w.heap.size, 1, none⟩ = some (.string x.f1) := (blk_cell HK1.out 1).trans rfl
      go_wp2_with fail
      refine (HH.out w1 HB1.out hs1).mono ?_
      rintro e w2 ⟨rfl, hb2⟩
      have HK2 := Lib.hid (blk_below HK1.out hb2)
      have HB2 := Lib.hid (below_step HB1.out hb2)
      clear hb2 hs1 HK1 HB1 HK HB HH HFN
      have q0 : w2.cell? ⟨w.heap.size, 0, none⟩ = some (.int .u8 x.f0) := (blk_cell HK2.out 0).trans rfl
      have q1 : w2.cell? ⟨w.heap.size, 1, none⟩ = some (.string x.f1) := (blk_cell HK2.out 1).trans rfl
      have q2 : w2.cell? ⟨w.heap.size, 2, none⟩ = some (.slice A2 x.f2.length c2) := (blk_cell HK2.out 2).trans rfl
      go_wp2_with fail
      have hCl := fun W Wb => clone29_calls l (by omega) A0 c0 w W HR.out Wb hc
      have HCl := Lib.hid hCl
      have hCo := fun (A : Option Addr) (c : Nat) (W : World) (hrW : Kd.C k29 W A m.length m) (hcW : m.length ≤ c) => copied_calls m (by omega) hlen HBY.out A c W hrW hcW
      have HCo := Lib.hid hCo
      have HM := Lib.hid hm
      clear hCl hCo hml hm
      go_region_law (first
        | (refine item_step w _ rfl _ _ rfl l m x HM.out hlen _ rfl _ rfl A2 c2 hl2 HR2.out (by first | assumption | exact OwnRow.below (by assumption) ((Below.refl _ _).alloc (Nat.le_refl _) _)) (by first | assumption | exact blk_new _ _) (by first | assumption | exact below_alloc (by assumption) _) ?_; intro A5 c5 w5 hC5 hl5 hb5)
        | (go_simp; go_at_call 18; refine (HCl.out (World.drew w2) (below_drew1 HB2.out)).mono ?_; rintro e w3 ⟨⟨v3, rfl, hv3⟩, hb3⟩; have hb3w := below_step (w := w) (below_drew1 HB2.out) hb3; have hO3 := OwnRow.lower hv3 (base' := w.heap.size) (below_size (below_drew1 HB2.out)); have hK3 := blk_below (blk_drew HK2.out) hb3; have q03 := (blk_cell hK3 0).trans rfl; have q13 := (blk_cell hK3 1).trans rfl; have q23 := (blk_cell hK3 2).trans rfl; clear hb3 hv3)
        | (go_simp; go_at_call 18; refine (HCl.out (World.drew (World.alloc w2 (.cells #[.int .u8 x.f0, .string x.f1, .slice A2 x.f2.length c2] 29))) (below_drew1 (below_alloc HB2.out _))).mono ?_; rintro e w3 ⟨⟨v3, rfl, hv3⟩, hb3⟩; have hb3w := below_step (w := w) (below_drew1 (below_alloc HB2.out (.cells #[.int .u8 x.f0, .string x.f1, .slice A2 x.f2.length c2] 29))) hb3; have hO3 := OwnRow.lower hv3 (base' := w.heap.size) (below_size (below_drew1 (below_alloc HB2.out (.cells #[.int .u8 x.f0, .string x.f1, .slice A2 x.f2.length c2] 29)))); have hK3 := blk_below (blk_drew (blk_alloc HK2.out (.cells #[.int .u8 x.f0, .string x.f1, .slice A2 x.f2.length c2] 29))) hb3; have q03 := (blk_cell hK3 0).trans rfl; have q13 := (blk_cell hK3 1).trans rfl; have q23 := (blk_cell hK3 2).trans rfl; have hL3 := blk_below (blk_drew (blk_new w2 (.cells #[.int .u8 x.f0, .string x.f1, .slice A2 x.f2.length c2] 29))) hb3; clear hb3 hv3)
        | (go_simp; go_at_call 17; refine (HCo.out _ _ _ hC5 hl5).mono ?_; rintro e w6 ⟨⟨v6, rfl, hS6⟩, hb6⟩; have hb6w := below_step (w := w) hb5 hb6; have hS7 := Kd.S_lower hS6 (below_size (w := w) hb5); clear hS6 hb6; obtain ⟨A6, c6, rfl⟩ := Kd.S_slice hS7))
      all_goals
        clear q0 q1 q2 HK2 HB2 HCl HCo
        have HS := Lib.hid hS7
        have HB6 := Lib.hid hb6w
        have HC6 := Lib.hid (Kd.S_reads' hS7)
        clear hS7 hb6w
        by_cases h1 : m.length ≤ 256
        · have h1' : ¬ 256 < (m.length : Int) := by omega
          have HFC := Lib.hid (file_calls m (fun y hy => (HAL.out.1 y hy).1) (HFL.out h1) A6 c6 w6 (Gl.below HB6.out HG.out) HC6.out.2.2 HC6.out.2.1)
          go_wp2_with fail
          refine HFC.out.mono ?_
          rintro e w7 ⟨v, rfl, hv, hbv⟩
          obtain ⟨Av, cv, rfl⟩ := Kd.R_slice hv
          have HB7 := Lib.hid (below_step HB6.out hbv)
          have HS7 := Lib.hid (Kd.S_below HS.out hbv)
          clear hv hbv
          have HN : ∃ n, n = (fileL m).length := ⟨_, rfl⟩
          obtain ⟨n, hn⟩ := HN
          rw [← hn]
          have HN := Lib.hid hn
          clear hn
          by_cases h2 : n ≤ 1048576
          · have h2' : ¬ 1048576 < (n : Int) := by omega
            have HA' : Hid (addL l x = (m, 0)) := Lib.hid (by rw [HA.out, ← HN.out, if_neg (by omega)])
            clear h1 h2 HA HN HFC
            go_wp2
            go_ret2
            rw [HA'.out]
            exact ⟨⟨_, rfl, HS7.out⟩, HB7.out⟩
          · have h2' : 1048576 < (n : Int) := by omega
            have HA' : Hid (addL l x = ([], 3)) := Lib.hid (by rw [HA.out, ← HN.out, if_pos (by omega)])
            clear h1 h2 HA HN HFC
            go_wp2
            go_ret2
            rw [HA'.out]
            exact ⟨⟨_, rfl, Kd.S_nil _ _ _ _ _⟩, HB7.out⟩
        · have h1' : 256 < (m.length : Int) := by omega
          have HA' : Hid (addL l x = ([], 3)) := Lib.hid (by rw [HA.out, if_pos (by omega)])
          go_wp2
          go_ret2
          rw [HA'.out]
          exact ⟨⟨_, rfl, Kd.S_nil _ _ _ _ _⟩, HB6.out⟩
    · rw [hh] at HH
      have HA : Hid (addL l x = ([], 8)) := Lib.hid (by unfold addL; rw [hf, hh]; rfl)
      clear hf hh
      go_enter Tryd.func9, Tryd.ntmps9
      go_wp2_with fail
      refine (HFN.out _).mono ?_
      rintro e w1 ⟨rfl, hb1⟩
      have HK1 := Lib.hid (blk_below HK.out hb1)
      have HB1 := Lib.hid (below_step HB.out hb1)
      clear hb1
      have hs1 : w1.cell? ⟨w.heap.size, 1, none⟩ = some (.string x.f1) := (blk_cell HK1.out 1).trans rfl
      go_wp2_with fail
      refine (HH.out w1 HB1.out hs1).mono ?_
      rintro e w2 ⟨rfl, hb2⟩
      have HB2 := Lib.hid (below_step HB1.out hb2)
      clear hb2 hs1
      go_wp2
      go_ret2
      rw [HA.out]
      exact ⟨⟨_, rfl, Kd.S_nil _ _ _ _ _⟩, HB2.out⟩
/-- Beyond this the walk says nothing. -/
def AddOk (m : List It) (x : It) : Prop := ItAll m ∧ (∀ y ∈ m, y.f2.length ≤ 140737488355328) ∧ (fineB x = true → m.length ≤ 256 → (fileL m).length ≤ 140737488355328)
instance (m : List It) (x : It) : Decidable (AddOk m x) := by unfold AddOk; infer_instance
def store_Add.f (l0 : List S29) (a1_0 : Int) (a1_1 : ByteArray) (l1_2 : List Int) : Option (List S29 × Int) := if AddOk (l0 ++ [⟨a1_0, a1_1, l1_2⟩]) ⟨a1_0, a1_1, l1_2⟩ then some (addL l0 ⟨a1_0, a1_1, l1_2⟩) else none
theorem store_Add.calls (A0 : Option Addr) (c0 : Nat) (l0 : List S29) (a1_0 : Int) (a1_1 : ByteArray) (A1_2 : Option Addr) (c1_2 : Nat) (l1_2 : List Int) (r1 : List S29) (r2 : Int) (w : World) (hgl : Gl w) (hr0 : Kd.C k29 w A0 l0.length l0) (hc0 : l0.length ≤ c0)
    (hr1 : Kd.C (Kd.int .u8) w A1_2 l1_2.length l1_2) (hc1 : l1_2.length ≤ c1_2) (h : store_Add.f l0 a1_0 a1_1 l1_2 = some (r1, r2)) :
    Calls Tryd.prog 9 #[.slice A0 l0.length c0, .agg #[.int .u8 a1_0, .string a1_1, .slice A1_2 l1_2.length c1_2]] w fun e w' => ∃ v0_ : Value, e = .returned (.tuple #[v0_, .int .i64 r2]) ∧ Kd.S k29 29 w' w.heap.size (fun _ => True) v0_ r1 ∧ Below w.heap.size w w' := by
  unfold store_Add.f at h
  split at h
  · rename_i hok
    have h' := Option.some.inj h
    obtain ⟨h1, h2, h3⟩ := hok
    refine (add_calls l0 _ ⟨a1_0, a1_1, l1_2⟩ rfl h1 h2 h3 A0 c0 A1_2 c1_2 w hgl hr0 hc0 hr1 hc1).mono ?_
    rintro e w' ⟨⟨v, rfl, hS⟩, hb⟩
    rw [h'] at hS ⊢
    exact ⟨v, rfl, hS, hb⟩
  · cases h
end Go.Proofs.YtfnahihdkbgleaaDoor.Z

import Derived.Test.YtanljnpjkokmcaaMuA
set_option linter.unusedVariables false
namespace Go.Sh.Ytanljnpjkokmcaa
open Go.Proofs Go.Sh

abbrev TrY := (Nat → List Ln) × (Nat → Nat) × Except Int Ent
def dropS (s : Nat → List Ln) (asid n : Int) : Nat → List Ln := fset s (q4 n) ((s (q4 n)).filter fun x => !isP asid n x)
def WkR (s : Nat → List Ln) (b : Nat → Nat) (root asid : Nat) (gen : Bool) (va : Nat) (k : Int) (tg : Bool) (y : TrY) : Prop := match walkF b 8 root va with
  | none => y = (dropS s (asid : Int) ((va / 4096 : Nat) : Int), b, .error 1)
  | some (x, a) => (chkE x k tg gen ≠ 0 → y = (s, b, .error (chkE x k tg gen))) ∧ (chkE x k tg gen = 0 → ∃ fl, (fl = false ↔ markE x k tg = x) ∧ y = (putS s ⟨(asid : Int), ((va / 4096 : Nat) : Int), markE x k tg, (a : Int)⟩, mkB b a (markE x k tg) fl, .ok (markE x k tg)))
def TrR (s : Nat → List Ln) (b : Nat → Nat) (root asid : Nat) (gen : Bool) (va : Nat) (k : Int) (tg : Bool) (y : TrY) : Prop :=
  (¬ va < 274877906944 → y = (s, b, .error 1)) ∧ (va < 274877906944 → match (s (q4 ((va / 4096 : Nat) : Int))).find? (isP (asid : Int) ((va / 4096 : Nat) : Int)) with
    | none => WkR s b root asid gen va k tg y
    | some l => (chkE l.e k tg gen ≠ 0 → y = (s, b, .error (chkE l.e k tg gen))) ∧ (chkE l.e k tg gen = 0 → (markE l.e k tg = l.e → y = (s, b, .ok l.e)) ∧ (markE l.e k tg ≠ l.e → WkR s b root asid gen va k tg y)))
def trV (va : Nat) (k : Int) : Except Int Ent → SV
  | .error n => .tup [.agg [.int .u64 0, .ff], .int .i64 n]
  | .ok e => .tup [.agg [.int .u64 (plA e va), .bool (stripB e k)], .int .i64 0]
theorem ulen {s s' : Nat → List Ln} (h : okT s) (h' : okT s') (rest : List Value) : (tlbC s rest).length = (tlbC s' rest).length := by rw [tlbC_len h, tlbC_len h']
theorem same_of {x : Ent} (k : Int) (tg : Bool) (h : ((markE x k tg).v == x.v && ((markE x k tg).r == x.r && ((markE x k tg).w == x.w && ((markE x k tg).x == x.x && ((markE x k tg).u == x.u && ((markE x k tg).g == x.g && ((markE x k tg).a == x.a && ((markE x k tg).d == x.d && ((markE x k tg).cw == x.cw && ((markE x k tg).cr == x.cr && ((markE x k tg).cd == x.cd && ((markE x k tg).gn == x.gn && decide ((markE x k tg).fr = x.fr))))))))))))) = true) : markE x k tg = x := by
  obtain ⟨v, r, w, x1, u, g, a1, d, cw, cr, cd, gn, fr⟩ := x
  simp [markE] at h ⊢
  simp_all
set_option maxHeartbeats 1000000 in
theorem trans_ok (s : Nat → List Ln) (root asid : Nat) (gen : Bool) (b t : Nat → Nat) (va : Nat) (k : Int) (tg : Bool) (hs : okT s) (hb : okB b) (hr : root < 2 ^ 64) (hva : va < 2 ^ 64) : Fun Try.prog 10 [.ptr 0 0, .ptr 1 0, .int .u64 (va : Int), .int .i64 k, .bool tg] [(0, .row (tlbC s (uR root asid gen))), (1, .cells [.slice 2 0 8 8]), (2, .row (ramV 8 b t))] 3 0 (fun y : TrY × (Nat → Nat) => okT y.1.1 ∧ TrR s b root asid gen va k tg y.1) (fun y => trV va k y.1.2.2) (fun y => [(0, .row (tlbC y.1.1 (uR root asid gen))), (1, .cells [.slice 2 0 8 8]), (2, .row (ramV 8 y.1.2.1 y.2))]) := by
  unfold Fun
  have hn := pnum_ok va hva
  have hlk := look_ok s (uR root asid gen) hs (asid : Int) ((va / 4096 : Nat) : Int) (by omega)
  refine Spec.of_body tabOk Try.func10 rfl (ent Try.func10 rfl (by kernel_rfl)) Try.ntmps10 rfl (by kernel_rfl) (Nat.le_of_ble_eq_true rfl) ?_
  conv => whnf
  refine Spec.of_body tabOk Try.func39 rfl (ent Try.func39 rfl (by kernel_rfl)) Try.ntmps39 rfl (by kernel_rfl) (Nat.le_of_ble_eq_true rfl) ?_
  conv => whnf
  refine ⟨fun hm => ?_, fun hm => ?_⟩
  · have hm : ¬ va < 274877906944 := by
      intro g
      rw [decide_eq_true (show (va : Int) < 274877906944 by omega)] at hm
      cases hm
    conv => whnf
    exact ⟨((s, b, .error 1), t), fun i => (i, 0), ⟨hs, ⟨fun _ => rfl, fun g => absurd g hm⟩⟩, fun _ _ => rfl, Part.keys ⟨⟨by decide, rfl, rfl, _, rfl, fun _ => rfl, Nat.le_refl _, fun _ => Nat.le_refl _, id⟩, ⟨by decide, rfl, rfl, _, rfl, fun _ => rfl, Nat.le_refl _, fun _ => Nat.le_refl _, id⟩, ⟨by decide, rfl, rfl, _, rfl, fun _ => rfl, Nat.le_refl _, fun _ => Nat.le_refl _, id⟩, trivial⟩ rfl, fun ρ => rfl⟩
  have hm : va < 274877906944 := by
    have := of_decide_eq_true (by simpa using hm : decide ((va : Int) < 274877906944) = true)
    omega
  have hT : ∀ y, TrR s b root asid gen va k tg y ↔ (match (s (q4 ((va / 4096 : Nat) : Int))).find? (isP (asid : Int) ((va / 4096 : Nat) : Int)) with
    | none => WkR s b root asid gen va k tg y
    | some l => (chkE l.e k tg gen ≠ 0 → y = (s, b, .error (chkE l.e k tg gen))) ∧ (chkE l.e k tg gen = 0 → (markE l.e k tg = l.e → y = (s, b, .ok l.e)) ∧ (markE l.e k tg ≠ l.e → WkR s b root asid gen va k tg y))) := fun y => ⟨fun g => g.2 hm, fun g => ⟨fun h => absurd hm h, fun _ => g⟩⟩
  generalize (s (q4 ((va / 4096 : Nat) : Int))).find? (isP (asid : Int) ((va / 4096 : Nat) : Int)) = o at hlk hT
  conv => whnf
  rcases o with _ | l
  · refine CodeL.cut 5 (by decide) (fun _ : Unit => ([(0, .ptr 0 0), (1, .ptr 1 0), (2, .int .u64 (va : Int)), (3, .int .i64 k), (4, .bool tg), (10, .ptr 3 0), (12, .ptr 4 0), (13, .ff)], [(0, .row (tlbC s (uR root asid gen))), (1, .cells [.slice 2 0 8 8]), (2, .row (ramV 8 b t)), (3, .cells [.int .u64 0, .ff]), (4, .cells (lnC ln0))])) (fun _ => True) (fun _ => rfl) ?_ (fun _ _ => ?_)
    · refine CodeL.any tabOk Try.checked.mixed [(0, .row (tlbC s (uR root asid gen)))] (.take 0 (.take 1 (.take 2 (.take 3 (.take 4 (.take 5 (.take 6 (.take 7 (.alt 8 (.alt 9 (.take 10 (.take 11 (.take 12 (.alt 13 (.alt 14 (.take 15 (.fin)) .stop) .stop)))) (.alt 13 (.alt 9 (.take 10 (.take 11 (.take 12 (.alt 14 (.take 15 (.fin)) .stop)))) .stop) .stop)) (.alt 13 (.alt 8 (.alt 9 (.take 10 (.take 11 (.take 12 (.alt 14 (.take 15 (.fin)) .stop)))) .stop) .stop) .stop)))))))))) (by kernel_rfl) rfl ⟨rfl, trivial⟩ rfl ?_
      repeat' ((try (conv => whnf)); first
        | refine LoadL.at1 (.int .u64 (asid : Int)) 133 rfl (uC_asid hs root asid gen) rfl ?_
        | refine Spec.pure hn rfl rfl (fun _ => rfl) ?_
        | refine Spec.fn (Fun.read hlk rfl) [0] rfl rfl (fun _ => rfl) rfl ⟨⟨by decide, rfl, rfl, _, rfl, fun _ => rfl, Nat.le_refl _, fun _ => Nat.le_refl _, fun h => (by cases h)⟩, trivial⟩ (fun _ _ => ⟨rfl, rfl, rfl, trivial⟩) (fun _ _ => ?_)
        | refine Needs.mk ⟨rfl, trivial⟩ ?_
        | refine And.intro ?_ ?_
        | exact ⟨(), fun k => (k, 0), trivial, fun _ _ => rfl, ⟨⟨_, rfl, fun _ => rfl⟩, ⟨_, rfl, fun _ => rfl⟩, ⟨_, rfl, fun _ => rfl⟩, ⟨_, rfl, fun _ => rfl⟩, ⟨_, rfl, fun _ => rfl⟩, ⟨_, rfl, fun _ => rfl⟩, ⟨_, rfl, fun _ => rfl⟩, ⟨_, rfl, fun _ => rfl⟩, trivial⟩, Part.keys ⟨⟨by decide, rfl, rfl, _, rfl, fun _ => rfl, Nat.le_refl _, fun _ => Nat.le_refl _, id⟩, ⟨by decide, rfl, rfl, _, rfl, fun _ => rfl, Nat.le_refl _, fun _ => Nat.le_refl _, id⟩, ⟨by decide, rfl, rfl, _, rfl, fun _ => rfl, Nat.le_refl _, fun _ => Nat.le_refl _, id⟩, ⟨by decide, rfl, rfl, _, rfl, fun _ => rfl, Nat.le_refl _, fun _ => Nat.le_refl _, id⟩, ⟨by decide, rfl, rfl, _, rfl, fun _ => rfl, Nat.le_refl _, fun _ => Nat.le_refl _, id⟩, trivial⟩ rfl⟩)
    conv => whnf
    have hK : ∀ y, WkR s b root asid gen va k tg y → TrR s b root asid gen va k tg y := fun y g => (hT y).2 g
    have hlo := looked_ok s root asid gen b t va k tg hs hb hr hva
    unfold WkR at hK
    rcases hW : walkF b 8 root va with _ | ⟨x, a⟩
    · rw [hW] at hlo
      have hK2 : TrR s b root asid gen va k tg (dropS s (asid : Int) ((va / 4096 : Nat) : Int), b, .error 1) := hK _ (by rw [hW])
      have hsd : okT (dropS s (asid : Int) ((va / 4096 : Nat) : Int)) := okT_fset hs (Nat.le_trans (List.length_filter_le _ _) (hs _))
      refine Spec.fn hlo [0, 1, 2] rfl rfl (fun _ => rfl) rfl ⟨⟨by decide, rfl, rfl, _, rfl, fun _ => rfl, Nat.le_refl _, fun _ => Nat.le_refl _, fun h => (by cases h)⟩, ⟨by decide, rfl, rfl, _, rfl, fun _ => rfl, Nat.le_refl _, fun _ => Nat.le_refl _, id⟩, ⟨by decide, rfl, rfl, _, rfl, fun _ => rfl, Nat.le_refl _, fun _ => Nat.le_refl _, fun h => (by cases h)⟩, trivial⟩ (fun _ _ => ⟨rfl, rfl, rfl, ⟨_, rfl, rfl, rfl⟩, rfl, trivial⟩) (fun _ _ => ?_)
      have hdr := drop_ok s (uR root asid gen) hs (asid : Int) ((va / 4096 : Nat) : Int) (by omega)
      conv => whnf
      refine CodeL.any tabOk Try.checked.mixed [] (.take 0 (.take 1 (.take 2 (.take 3 (.take 4 (.take 5 (.take 7 (.alt 6 (.alt 8 (.alt 9 (.fin) .stop) .stop) (.alt 8 (.alt 6 (.alt 9 (.fin) .stop) .stop) .stop))))))))) (by kernel_rfl) rfl trivial rfl ?_
      repeat' ((try (conv => whnf)); first
        | refine LoadL.at1 (.int .u64 (asid : Int)) 133 rfl (uC_asid hs root asid gen) rfl ?_
        | refine Spec.pure hn rfl rfl (fun _ => rfl) ?_
        | refine Spec.row (t := 0) hdr rfl (fun _ => rfl) rfl rfl (ulen hsd hs _) rfl (fun _ => rfl) rfl ?_
        | refine Needs.mk trivial ?_
        | refine And.intro ?_ ?_
        | refine IfL.t rfl ?_
        | exact ⟨((dropS s (asid : Int) ((va / 4096 : Nat) : Int), b, .error 1), t), fun i => (i, 0), ⟨hsd, hK2⟩, fun _ _ => rfl, Part.keys ⟨⟨by decide, rfl, rfl, _, rfl, fun _ => rfl, Nat.le_refl _, fun _ => Nat.le_refl _, id⟩, ⟨by decide, rfl, rfl, _, rfl, fun _ => rfl, Nat.le_refl _, fun _ => Nat.le_refl _, id⟩, ⟨by decide, rfl, rfl, _, rfl, fun _ => rfl, Nat.le_refl _, fun _ => Nat.le_refl _, id⟩, trivial⟩ rfl, fun ρ => rfl⟩)
    · rw [hW] at hlo
      obtain ⟨hx, hbad, hal, ha⟩ := walk_is hW
      have hxo : okE x := by rw [hx]; exact entOf_ok _
      refine Spec.fn hlo [0, 1, 2] rfl rfl (fun _ => rfl) rfl ⟨⟨by decide, rfl, rfl, _, rfl, fun _ => rfl, Nat.le_refl _, fun _ => Nat.le_refl _, fun h => (by cases h)⟩, ⟨by decide, rfl, rfl, _, rfl, fun _ => rfl, Nat.le_refl _, fun _ => Nat.le_refl _, id⟩, ⟨by decide, rfl, rfl, _, rfl, fun _ => rfl, Nat.le_refl _, fun _ => Nat.le_refl _, fun h => (by cases h)⟩, trivial⟩ (fun _ _ => ⟨rfl, rfl, rfl, ⟨_, rfl, rfl, rfl⟩, rfl, trivial⟩) (fun _ _ => ?_)
      conv => whnf
      refine ⟨fun hc => ?_, fun hc => ?_⟩
      · have hc : chkE x k tg gen ≠ 0 := by simpa using hc
        have hK2 : TrR s b root asid gen va k tg (s, b, .error (chkE x k tg gen)) := hK _ (by rw [hW]; exact ⟨fun _ => rfl, fun g => absurd g hc⟩)
        conv => whnf
        exact ⟨((s, b, .error (chkE x k tg gen)), t), fun i => (i, 0), ⟨hs, hK2⟩, fun _ _ => rfl, Part.keys ⟨⟨by decide, rfl, rfl, _, rfl, fun _ => rfl, Nat.le_refl _, fun _ => Nat.le_refl _, id⟩, ⟨by decide, rfl, rfl, _, rfl, fun _ => rfl, Nat.le_refl _, fun _ => Nat.le_refl _, id⟩, ⟨by decide, rfl, rfl, _, rfl, fun _ => rfl, Nat.le_refl _, fun _ => Nat.le_refl _, id⟩, trivial⟩ rfl, fun ρ => rfl⟩
      have hc : chkE x k tg gen = 0 := by simpa using hc
      conv => whnf
      refine Spec.fn (mark_ok b t x a k tg hxo ha hal) [1, 2] rfl rfl (fun _ => rfl) rfl ⟨⟨by decide, rfl, rfl, _, rfl, fun _ => rfl, Nat.le_refl _, fun _ => Nat.le_refl _, id⟩, ⟨by decide, rfl, rfl, _, rfl, fun _ => rfl, Nat.le_refl _, fun _ => Nat.le_refl _, id⟩, trivial⟩ (fun _ _ => ⟨rfl, rfl, ⟨_, rfl, rfl, rfl⟩, ⟨_, rfl, rfl, rlen _ _ _ _ _⟩, trivial⟩) (fun z hz => ?_)
      have hpu := put_ok s (uR root asid gen) hs ⟨(asid : Int), ((va / 4096 : Nat) : Int), markE x k tg, (a : Int)⟩ (by show (0 : Int) ≤ ((va / 4096 : Nat) : Int); omega)
      have hsp : okT (putS s ⟨(asid : Int), ((va / 4096 : Nat) : Int), markE x k tg, (a : Int)⟩) := okT_fset hs (putL_len (Nat.le_trans (List.length_filter_le _ _) (hs _)) _)
      have hpl := place_ok (markE x k tg) va k
      have hK2 : TrR s b root asid gen va k tg (putS s ⟨(asid : Int), ((va / 4096 : Nat) : Int), markE x k tg, (a : Int)⟩, mkB b a (markE x k tg) z.1, .ok (markE x k tg)) := hK _ (by rw [hW]; exact ⟨fun g => absurd hc g, fun _ => ⟨z.1, hz, rfl⟩⟩)
      conv => whnf
      refine CodeL.any tabOk Try.checked.mixed [(5, .cells (fndC (markE x k tg) (a : Int)))] (.take 0 (.take 1 (.take 2 (.take 3 (.take 4 (.take 5 (.take 7 (.take 9 (.alt 6 (.alt 8 (.take 10 (.alt 11 (.fin) .stop)) .stop) (.alt 8 (.alt 6 (.take 10 (.alt 11 (.fin) .stop)) .stop) .stop)))))))))) (by kernel_rfl) rfl ⟨rfl, trivial⟩ rfl ?_
      repeat' ((try (conv => whnf)); first
        | refine LoadL.at1 (.int .u64 (asid : Int)) 133 rfl (uC_asid hs root asid gen) rfl ?_
        | refine Spec.pure hn rfl rfl (fun _ => rfl) ?_
        | refine Spec.pure hpl rfl rfl (fun _ => rfl) ?_
        | refine Spec.row (t := 0) hpu rfl (fun _ => rfl) rfl rfl (ulen hsp hs _) rfl (fun _ => rfl) rfl ?_
        | refine Needs.mk ⟨rfl, trivial⟩ ?_
        | refine And.intro ?_ ?_
        | exact ⟨((putS s ⟨(asid : Int), ((va / 4096 : Nat) : Int), markE x k tg, (a : Int)⟩, mkB b a (markE x k tg) z.1, .ok (markE x k tg)), z.2), fun i => (i, 0), ⟨hsp, hK2⟩, fun _ _ => rfl, Part.keys ⟨⟨by decide, rfl, rfl, _, rfl, fun _ => rfl, Nat.le_refl _, fun _ => Nat.le_refl _, id⟩, ⟨by decide, rfl, rfl, _, rfl, fun _ => rfl, Nat.le_refl _, fun _ => Nat.le_refl _, id⟩, ⟨by decide, rfl, rfl, _, rfl, fun _ => rfl, Nat.le_refl _, fun _ => Nat.le_refl _, id⟩, trivial⟩ rfl, fun ρ => rfl⟩)
  · refine CodeL.cut 5 (by decide) (fun _ : Unit => ([(0, .ptr 0 0), (1, .ptr 1 0), (2, .int .u64 (va : Int)), (3, .int .i64 k), (4, .bool tg), (10, .ptr 3 0), (12, .ptr 4 0), (13, .tt)], [(0, .row (tlbC s (uR root asid gen))), (1, .cells [.slice 2 0 8 8]), (2, .row (ramV 8 b t)), (3, .cells [.int .u64 0, .ff]), (4, .cells (lnC l))])) (fun _ => True) (fun _ => rfl) ?_ (fun _ _ => ?_)
    · refine CodeL.any tabOk Try.checked.mixed [(0, .row (tlbC s (uR root asid gen)))] (.take 0 (.take 1 (.take 2 (.take 3 (.take 4 (.take 5 (.take 6 (.take 7 (.alt 8 (.alt 9 (.take 10 (.take 11 (.take 12 (.alt 13 (.alt 14 (.take 15 (.fin)) .stop) .stop)))) (.alt 13 (.alt 9 (.take 10 (.take 11 (.take 12 (.alt 14 (.take 15 (.fin)) .stop)))) .stop) .stop)) (.alt 13 (.alt 8 (.alt 9 (.take 10 (.take 11 (.take 12 (.alt 14 (.take 15 (.fin)) .stop)))) .stop) .stop) .stop)))))))))) (by kernel_rfl) rfl ⟨rfl, trivial⟩ rfl ?_
      repeat' ((try (conv => whnf)); first
        | refine LoadL.at1 (.int .u64 (asid : Int)) 133 rfl (uC_asid hs root asid gen) rfl ?_
        | refine Spec.pure hn rfl rfl (fun _ => rfl) ?_
        | refine Spec.fn (Fun.read hlk rfl) [0] rfl rfl (fun _ => rfl) rfl ⟨⟨by decide, rfl, rfl, _, rfl, fun _ => rfl, Nat.le_refl _, fun _ => Nat.le_refl _, fun h => (by cases h)⟩, trivial⟩ (fun _ _ => ⟨rfl, rfl, rfl, trivial⟩) (fun _ _ => ?_)
        | refine Needs.mk ⟨rfl, trivial⟩ ?_
        | refine And.intro ?_ ?_
        | exact ⟨(), fun k => (k, 0), trivial, fun _ _ => rfl, ⟨⟨_, rfl, fun _ => rfl⟩, ⟨_, rfl, fun _ => rfl⟩, ⟨_, rfl, fun _ => rfl⟩, ⟨_, rfl, fun _ => rfl⟩, ⟨_, rfl, fun _ => rfl⟩, ⟨_, rfl, fun _ => rfl⟩, ⟨_, rfl, fun _ => rfl⟩, ⟨_, rfl, fun _ => rfl⟩, trivial⟩, Part.keys ⟨⟨by decide, rfl, rfl, _, rfl, fun _ => rfl, Nat.le_refl _, fun _ => Nat.le_refl _, id⟩, ⟨by decide, rfl, rfl, _, rfl, fun _ => rfl, Nat.le_refl _, fun _ => Nat.le_refl _, id⟩, ⟨by decide, rfl, rfl, _, rfl, fun _ => rfl, Nat.le_refl _, fun _ => Nat.le_refl _, id⟩, ⟨by decide, rfl, rfl, _, rfl, fun _ => rfl, Nat.le_refl _, fun _ => Nat.le_refl _, id⟩, ⟨by decide, rfl, rfl, _, rfl, fun _ => rfl, Nat.le_refl _, fun _ => Nat.le_refl _, id⟩, trivial⟩ rfl⟩)
    conv => whnf
    refine CodeL.draw tabOk Try.checked.mixed 8 (by kernel_rfl) rfl ?_
    conv => whnf
    refine .at1 (.bool gen) 134 rfl (uC_gen hs root asid gen) rfl ?_
    conv => whnf
    refine QCallL.pure (check_ok l.e k tg gen) rfl rfl (fun _ => rfl) ?_
    conv => whnf
    refine ⟨fun hc => ?_, fun hc => ?_⟩
    · have hc : chkE l.e k tg gen ≠ 0 := by simpa using hc
      have hz : (SV.tup [.agg [.int .u64 0, .ff], .int .i64 (chkE l.e k tg gen)]) = trV va k (.error (chkE l.e k tg gen)) := rfl
      conv => whnf
      exact ⟨((s, b, .error (chkE l.e k tg gen)), t), fun i => (i, 0), ⟨hs, (hT _).2 ⟨fun _ => rfl, fun g => absurd g hc⟩⟩, fun _ _ => rfl, Part.keys ⟨⟨by decide, rfl, rfl, _, rfl, fun _ => rfl, Nat.le_refl _, fun _ => Nat.le_refl _, id⟩, ⟨by decide, rfl, rfl, _, rfl, fun _ => rfl, Nat.le_refl _, fun _ => Nat.le_refl _, id⟩, ⟨by decide, rfl, rfl, _, rfl, fun _ => rfl, Nat.le_refl _, fun _ => Nat.le_refl _, id⟩, trivial⟩ rfl, fun ρ => rfl⟩
    have hc : chkE l.e k tg gen = 0 := by simpa using hc
    conv => whnf
    refine CodeL.draw tabOk Try.checked.mixed 6 (by kernel_rfl) rfl ?_
    conv => whnf
    refine QCallL.pure (marked_ok l.e k tg) rfl rfl (fun _ => rfl) ?_
    conv => whnf
    refine VL.qop rfl (VL.eq tabOk ?_)
    conv => whnf
    refine Needs.mk (by kernel_rfl) ?_
    conv => whnf
    refine Needs.mk ⟨rfl, by kernel_rfl⟩ ?_
    conv => whnf
    refine ⟨fun hq => ?_, fun hq => ?_⟩
    · have hme : markE l.e k tg = l.e := same_of k tg hq
      conv => whnf
      refine Spec.pure (place_ok l.e va k) rfl rfl (fun _ => rfl) ?_
      conv => whnf
      exact ⟨((s, b, .ok l.e), t), fun i => (i, 0), ⟨hs, (hT _).2 ⟨fun g => absurd hc g, fun _ => ⟨fun _ => rfl, fun g => absurd hme g⟩⟩⟩, fun _ _ => rfl, Part.keys ⟨⟨by decide, rfl, rfl, _, rfl, fun _ => rfl, Nat.le_refl _, fun _ => Nat.le_refl _, id⟩, ⟨by decide, rfl, rfl, _, rfl, fun _ => rfl, Nat.le_refl _, fun _ => Nat.le_refl _, id⟩, ⟨by decide, rfl, rfl, _, rfl, fun _ => rfl, Nat.le_refl _, fun _ => Nat.le_refl _, id⟩, trivial⟩ rfl, fun ρ => rfl⟩
    · have hme : markE l.e k tg ≠ l.e := fun g => by rw [g] at hq; simp at hq
      conv => whnf
      have hK : ∀ y, WkR s b root asid gen va k tg y → TrR s b root asid gen va k tg y := fun y g => (hT y).2 ⟨fun h => absurd hc h, fun _ => ⟨fun h => absurd h hme, fun _ => g⟩⟩
      have hlo := looked_ok s root asid gen b t va k tg hs hb hr hva
      unfold WkR at hK
      rcases hW : walkF b 8 root va with _ | ⟨x, a⟩
      · rw [hW] at hlo
        have hK2 : TrR s b root asid gen va k tg (dropS s (asid : Int) ((va / 4096 : Nat) : Int), b, .error 1) := hK _ (by rw [hW])
        have hsd : okT (dropS s (asid : Int) ((va / 4096 : Nat) : Int)) := okT_fset hs (Nat.le_trans (List.length_filter_le _ _) (hs _))
        refine Spec.fn hlo [0, 1, 2] rfl rfl (fun _ => rfl) rfl ⟨⟨by decide, rfl, rfl, _, rfl, fun _ => rfl, Nat.le_refl _, fun _ => Nat.le_refl _, fun h => (by cases h)⟩, ⟨by decide, rfl, rfl, _, rfl, fun _ => rfl, Nat.le_refl _, fun _ => Nat.le_refl _, id⟩, ⟨by decide, rfl, rfl, _, rfl, fun _ => rfl, Nat.le_refl _, fun _ => Nat.le_refl _, fun h => (by cases h)⟩, trivial⟩ (fun _ _ => ⟨rfl, rfl, rfl, ⟨_, rfl, rfl, rfl⟩, rfl, trivial⟩) (fun _ _ => ?_)
        have hdr := drop_ok s (uR root asid gen) hs (asid : Int) ((va / 4096 : Nat) : Int) (by omega)
        conv => whnf
        refine CodeL.any tabOk Try.checked.mixed [] (.take 0 (.take 1 (.take 2 (.take 3 (.take 4 (.take 5 (.take 7 (.alt 6 (.alt 8 (.alt 9 (.fin) .stop) .stop) (.alt 8 (.alt 6 (.alt 9 (.fin) .stop) .stop) .stop))))))))) (by kernel_rfl) rfl trivial rfl ?_
        repeat' ((try (conv => whnf)); first
          | refine LoadL.at1 (.int .u64 (asid : Int)) 133 rfl (uC_asid hs root asid gen) rfl ?_
          | refine Spec.pure hn rfl rfl (fun _ => rfl) ?_
          | refine Spec.row (t := 0) hdr rfl (fun _ => rfl) rfl rfl (ulen hsd hs _) rfl (fun _ => rfl) rfl ?_
          | refine Needs.mk trivial ?_
          | refine And.intro ?_ ?_
          | refine IfL.t rfl ?_
          | exact ⟨((dropS s (asid : Int) ((va / 4096 : Nat) : Int), b, .error 1), t), fun i => (i, 0), ⟨hsd, hK2⟩, fun _ _ => rfl, Part.keys ⟨⟨by decide, rfl, rfl, _, rfl, fun _ => rfl, Nat.le_refl _, fun _ => Nat.le_refl _, id⟩, ⟨by decide, rfl, rfl, _, rfl, fun _ => rfl, Nat.le_refl _, fun _ => Nat.le_refl _, id⟩, ⟨by decide, rfl, rfl, _, rfl, fun _ => rfl, Nat.le_refl _, fun _ => Nat.le_refl _, id⟩, trivial⟩ rfl, fun ρ => rfl⟩)
      · rw [hW] at hlo
        obtain ⟨hx, hbad, hal, ha⟩ := walk_is hW
        have hxo : okE x := by rw [hx]; exact entOf_ok _
        refine Spec.fn hlo [0, 1, 2] rfl rfl (fun _ => rfl) rfl ⟨⟨by decide, rfl, rfl, _, rfl, fun _ => rfl, Nat.le_refl _, fun _ => Nat.le_refl _, fun h => (by cases h)⟩, ⟨by decide, rfl, rfl, _, rfl, fun _ => rfl, Nat.le_refl _, fun _ => Nat.le_refl _, id⟩, ⟨by decide, rfl, rfl, _, rfl, fun _ => rfl, Nat.le_refl _, fun _ => Nat.le_refl _, fun h => (by cases h)⟩, trivial⟩ (fun _ _ => ⟨rfl, rfl, rfl, ⟨_, rfl, rfl, rfl⟩, rfl, trivial⟩) (fun _ _ => ?_)
        conv => whnf
        refine ⟨fun hc => ?_, fun hc => ?_⟩
        · have hc : chkE x k tg gen ≠ 0 := by simpa using hc
          have hK2 : TrR s b root asid gen va k tg (s, b, .error (chkE x k tg gen)) := hK _ (by rw [hW]; exact ⟨fun _ => rfl, fun g => absurd g hc⟩)
          conv => whnf
          exact ⟨((s, b, .error (chkE x k tg gen)), t), fun i => (i, 0), ⟨hs, hK2⟩, fun _ _ => rfl, Part.keys ⟨⟨by decide, rfl, rfl, _, rfl, fun _ => rfl, Nat.le_refl _, fun _ => Nat.le_refl _, id⟩, ⟨by decide, rfl, rfl, _, rfl, fun _ => rfl, Nat.le_refl _, fun _ => Nat.le_refl _, id⟩, ⟨by decide, rfl, rfl, _, rfl, fun _ => rfl, Nat.le_refl _, fun _ => Nat.le_refl _, id⟩, trivial⟩ rfl, fun ρ => rfl⟩
        have hc : chkE x k tg gen = 0 := by simpa using hc
        conv => whnf
        refine Spec.fn (mark_ok b t x a k tg hxo ha hal) [1, 2] rfl rfl (fun _ => rfl) rfl ⟨⟨by decide, rfl, rfl, _, rfl, fun _ => rfl, Nat.le_refl _, fun _ => Nat.le_refl _, id⟩, ⟨by decide, rfl, rfl, _, rfl, fun _ => rfl, Nat.le_refl _, fun _ => Nat.le_refl _, id⟩, trivial⟩ (fun _ _ => ⟨rfl, rfl, ⟨_, rfl, rfl, rfl⟩, ⟨_, rfl, rfl, rlen _ _ _ _ _⟩, trivial⟩) (fun z hz => ?_)
        have hpu := put_ok s (uR root asid gen) hs ⟨(asid : Int), ((va / 4096 : Nat) : Int), markE x k tg, (a : Int)⟩ (by show (0 : Int) ≤ ((va / 4096 : Nat) : Int); omega)
        have hsp : okT (putS s ⟨(asid : Int), ((va / 4096 : Nat) : Int), markE x k tg, (a : Int)⟩) := okT_fset hs (putL_len (Nat.le_trans (List.length_filter_le _ _) (hs _)) _)
        have hpl := place_ok (markE x k tg) va k
        have hK2 : TrR s b root asid gen va k tg (putS s ⟨(asid : Int), ((va / 4096 : Nat) : Int), markE x k tg, (a : Int)⟩, mkB b a (markE x k tg) z.1, .ok (markE x k tg)) := hK _ (by rw [hW]; exact ⟨fun g => absurd hc g, fun _ => ⟨z.1, hz, rfl⟩⟩)
        conv => whnf
        refine CodeL.any tabOk Try.checked.mixed [(6, .cells (fndC (markE x k tg) (a : Int)))] (.take 0 (.take 1 (.take 2 (.take 3 (.take 4 (.take 5 (.take 7 (.take 9 (.alt 6 (.alt 8 (.take 10 (.alt 11 (.fin) .stop)) .stop) (.alt 8 (.alt 6 (.take 10 (.alt 11 (.fin) .stop)) .stop) .stop)))))))))) (by kernel_rfl) rfl ⟨rfl, trivial⟩ rfl ?_
        repeat' ((try (conv => whnf)); first
          | refine LoadL.at1 (.int .u64 (asid : Int)) 133 rfl (uC_asid hs root asid gen) rfl ?_
          | refine Spec.pure hn rfl rfl (fun _ => rfl) ?_
          | refine Spec.pure hpl rfl rfl (fun _ => rfl) ?_
          | refine Spec.row (t := 0) hpu rfl (fun _ => rfl) rfl rfl (ulen hsp hs _) rfl (fun _ => rfl) rfl ?_
          | refine Needs.mk ⟨rfl, trivial⟩ ?_
          | refine And.intro ?_ ?_
          | exact ⟨((putS s ⟨(asid : Int), ((va / 4096 : Nat) : Int), markE x k tg, (a : Int)⟩, mkB b a (markE x k tg) z.1, .ok (markE x k tg)), z.2), fun i => (i, 0), ⟨hsp, hK2⟩, fun _ _ => rfl, Part.keys ⟨⟨by decide, rfl, rfl, _, rfl, fun _ => rfl, Nat.le_refl _, fun _ => Nat.le_refl _, id⟩, ⟨by decide, rfl, rfl, _, rfl, fun _ => rfl, Nat.le_refl _, fun _ => Nat.le_refl _, id⟩, ⟨by decide, rfl, rfl, _, rfl, fun _ => rfl, Nat.le_refl _, fun _ => Nat.le_refl _, id⟩, trivial⟩ rfl, fun ρ => rfl⟩)
end Go.Sh.Ytanljnpjkokmcaa

/-
  No cell of these rows narrows 'for every input' (looked for: loops, veiled, ifaces, maps, wideKeys, modest, calm, conditions, laid).
  DERIVED. THE GIVEN ROWS OF THIS SEAT. 22 by the template 'for every input the law returns true; each argument reads behind the call as it read before'; 0 by the template 'total and deterministic' (their statements: YtlmcdgbjbamdnaaTotals.lean).
  GIVEN WITH THE SEED: the statements are not yours to turn. If you find one false, say at which input.
  Laid BY PROGRAM, IN A SANDBOX (cutbox-rows.mjs): the forced cells as the released guide's own fill.sh prints them over the translation f6b6e6e6bfe580a6… (all of the seat's roots in one cut). By AI agents, Wed Nov 11 2026. No macro, syntax, notation, axiom, sorry.
-/
import Derived.Test.YtlmcdgbjbamdnaaChecked
import GoSem.Claim
import GoSem.ClaimJoined
import GoSem.ClaimMapViews
import Derived.JoinedTies
import Derived.KernelRfl
namespace Go.Proofs.Ytlmcdgbjbamdnaa
/- THE CELL 'sum', in the pinned program and in every row, IS THE sha256 OF THE DUMP (.gsa) THAT YtlmcdgbjbamdnaaProg.lean LOADS. Nothing in Lean hashes anything: it is a label: what it is worth is what the hold of that sum in a sandbox is worth. -/
noncomputable def Try.pinned : Pinned := { name := "ytlmcdgbjbamdnaa", sum := "f6b6e6e6bfe580a601bdd954f63bd1852825da70d18ebd808c85c437368b1626", checked := Try.checked }
namespace Rows
def none {H : Type} : Left H := { results := [], args := [] }

/-- 'baileylaw06.CaveatChecks': WHATEVER THE INPUT: true; the input reads as it did. -/
def caveatChecksSpec : ChangeSpec := { name := "caveatChecks", fn := fun _ => fun
  | [d1, d2] => { results := [.lit (.bool true)], args := [d1, d2] }
  | _ => none }
def caveatChecksRow : OpenClaim := { program := "ytlmcdgbjbamdnaa", sum := "f6b6e6e6bfe580a601bdd954f63bd1852825da70d18ebd808c85c437368b1626", func := "bailey/baileylaw06.CaveatChecks", spec := "caveatChecks", inPlace := ["internal/bytealg.abigen_runtime_cmpstring"], apart := false }
def CaveatChecksSaid : Prop := caveatChecksRow.holds Try.pinned (OpenSpec.ofChange caveatChecksSpec)

/-- ITS FALSE NEIGHBOUR: 'it returns false'. Refute it at one input. -/
def caveatChecksWrong : ChangeSpec := { name := "caveatChecks", fn := fun _ => fun
  | [d1, d2] => { results := [.lit (.bool false)], args := [d1, d2] }
  | _ => none }
def CaveatChecksWrongFalsely : Prop := caveatChecksRow.holds Try.pinned (OpenSpec.ofChange caveatChecksWrong)

/-- 'baileylaw06.CaveatSame': WHATEVER THE INPUT: true; the input reads as it did. -/
def caveatSameSpec : ChangeSpec := { name := "caveatSame", fn := fun _ => fun
  | [d1, d2] => { results := [.lit (.bool true)], args := [d1, d2] }
  | _ => none }
def caveatSameRow : OpenClaim := { program := "ytlmcdgbjbamdnaa", sum := "f6b6e6e6bfe580a601bdd954f63bd1852825da70d18ebd808c85c437368b1626", func := "bailey/baileylaw06.CaveatSame", spec := "caveatSame", inPlace := ["internal/bytealg.abigen_runtime_cmpstring"], apart := false }
def CaveatSameSaid : Prop := caveatSameRow.holds Try.pinned (OpenSpec.ofChange caveatSameSpec)

/-- ITS FALSE NEIGHBOUR: 'it returns false'. Refute it at one input. -/
def caveatSameWrong : ChangeSpec := { name := "caveatSame", fn := fun _ => fun
  | [d1, d2] => { results := [.lit (.bool false)], args := [d1, d2] }
  | _ => none }
def CaveatSameWrongFalsely : Prop := caveatSameRow.holds Try.pinned (OpenSpec.ofChange caveatSameWrong)

/-- 'baileylaw06.CaveatHolds': WHATEVER THE INPUT: true; the input reads as it did. -/
def caveatHoldsSpec : ChangeSpec := { name := "caveatHolds", fn := fun _ => fun
  | [d1, d2, d3] => { results := [.lit (.bool true)], args := [d1, d2, d3] }
  | _ => none }
def caveatHoldsRow : OpenClaim := { program := "ytlmcdgbjbamdnaa", sum := "f6b6e6e6bfe580a601bdd954f63bd1852825da70d18ebd808c85c437368b1626", func := "bailey/baileylaw06.CaveatHolds", spec := "caveatHolds", inPlace := ["internal/bytealg.abigen_runtime_cmpstring"], unfollowed := true, recurses := true, apart := false }
def CaveatHoldsSaid : Prop := caveatHoldsRow.holds Try.pinned (OpenSpec.ofChange caveatHoldsSpec)

/-- ITS FALSE NEIGHBOUR: 'it returns false'. Refute it at one input. -/
def caveatHoldsWrong : ChangeSpec := { name := "caveatHolds", fn := fun _ => fun
  | [d1, d2, d3] => { results := [.lit (.bool false)], args := [d1, d2, d3] }
  | _ => none }
def CaveatHoldsWrongFalsely : Prop := caveatHoldsRow.holds Try.pinned (OpenSpec.ofChange caveatHoldsWrong)

/-- 'baileylaw06.CaveatWeaker': WHATEVER THE INPUT: true; the input reads as it did. -/
def caveatWeakerSpec : ChangeSpec := { name := "caveatWeaker", fn := fun _ => fun
  | [d1, d2, d3] => { results := [.lit (.bool true)], args := [d1, d2, d3] }
  | _ => none }
def caveatWeakerRow : OpenClaim := { program := "ytlmcdgbjbamdnaa", sum := "f6b6e6e6bfe580a601bdd954f63bd1852825da70d18ebd808c85c437368b1626", func := "bailey/baileylaw06.CaveatWeaker", spec := "caveatWeaker", inPlace := ["internal/bytealg.abigen_runtime_cmpstring"], unfollowed := true, recurses := true, apart := false }
def CaveatWeakerSaid : Prop := caveatWeakerRow.holds Try.pinned (OpenSpec.ofChange caveatWeakerSpec)

/-- ITS FALSE NEIGHBOUR: 'it returns false'. Refute it at one input. -/
def caveatWeakerWrong : ChangeSpec := { name := "caveatWeaker", fn := fun _ => fun
  | [d1, d2, d3] => { results := [.lit (.bool false)], args := [d1, d2, d3] }
  | _ => none }
def CaveatWeakerWrongFalsely : Prop := caveatWeakerRow.holds Try.pinned (OpenSpec.ofChange caveatWeakerWrong)

/-- 'baileylaw22.ChainLinks': WHATEVER THE INPUT: true; the input reads as it did. -/
def chainLinksSpec : ChangeSpec := { name := "chainLinks", fn := fun _ => fun
  | [d1, d2, d3, d4] => { results := [.lit (.bool true)], args := [d1, d2, d3, d4] }
  | _ => none }
def chainLinksRow : OpenClaim := { program := "ytlmcdgbjbamdnaa", sum := "f6b6e6e6bfe580a601bdd954f63bd1852825da70d18ebd808c85c437368b1626", func := "bailey/baileylaw22.ChainLinks", spec := "chainLinks", recurses := true, apart := false }
def ChainLinksSaid : Prop := chainLinksRow.holds Try.pinned (OpenSpec.ofChange chainLinksSpec)

/-- ITS FALSE NEIGHBOUR: 'it returns false'. Refute it at one input. -/
def chainLinksWrong : ChangeSpec := { name := "chainLinks", fn := fun _ => fun
  | [d1, d2, d3, d4] => { results := [.lit (.bool false)], args := [d1, d2, d3, d4] }
  | _ => none }
def ChainLinksWrongFalsely : Prop := chainLinksRow.holds Try.pinned (OpenSpec.ofChange chainLinksWrong)

/-- 'baileylaw22.ChainParts': WHATEVER THE INPUT: true; the input reads as it did. -/
def chainPartsSpec : ChangeSpec := { name := "chainParts", fn := fun _ => fun
  | [d1, d2, d3] => { results := [.lit (.bool true)], args := [d1, d2, d3] }
  | _ => none }
def chainPartsRow : OpenClaim := { program := "ytlmcdgbjbamdnaa", sum := "f6b6e6e6bfe580a601bdd954f63bd1852825da70d18ebd808c85c437368b1626", func := "bailey/baileylaw22.ChainParts", spec := "chainParts", apart := false }
def ChainPartsSaid : Prop := chainPartsRow.holds Try.pinned (OpenSpec.ofChange chainPartsSpec)

/-- ITS FALSE NEIGHBOUR: 'it returns false'. Refute it at one input. -/
def chainPartsWrong : ChangeSpec := { name := "chainParts", fn := fun _ => fun
  | [d1, d2, d3] => { results := [.lit (.bool false)], args := [d1, d2, d3] }
  | _ => none }
def ChainPartsWrongFalsely : Prop := chainPartsRow.holds Try.pinned (OpenSpec.ofChange chainPartsWrong)

/-- 'baileylaw23.CommandOf': WHATEVER THE INPUT: true; the input reads as it did. -/
def commandOfSpec : ChangeSpec := { name := "commandOf", fn := fun _ => fun
  | [d] => { results := [.lit (.bool true)], args := [d] }
  | _ => none }
def commandOfRow : OpenClaim := { program := "ytlmcdgbjbamdnaa", sum := "f6b6e6e6bfe580a601bdd954f63bd1852825da70d18ebd808c85c437368b1626", func := "bailey/baileylaw23.CommandOf", spec := "commandOf", unfollowed := true, recurses := true, apart := false }
def CommandOfSaid : Prop := commandOfRow.holds Try.pinned (OpenSpec.ofChange commandOfSpec)

/-- ITS FALSE NEIGHBOUR: 'it returns false'. Refute it at one input. -/
def commandOfWrong : ChangeSpec := { name := "commandOf", fn := fun _ => fun
  | [d] => { results := [.lit (.bool false)], args := [d] }
  | _ => none }
def CommandOfWrongFalsely : Prop := commandOfRow.holds Try.pinned (OpenSpec.ofChange commandOfWrong)

/-- 'baileylaw06.CaveatCodes': WHATEVER THE INPUT: true; the input reads as it did. -/
def caveatCodesSpec : ChangeSpec := { name := "caveatCodes", fn := fun _ => fun
  | [d1, d2, d3] => { results := [.lit (.bool true)], args := [d1, d2, d3] }
  | _ => none }
def caveatCodesRow : OpenClaim := { program := "ytlmcdgbjbamdnaa", sum := "f6b6e6e6bfe580a601bdd954f63bd1852825da70d18ebd808c85c437368b1626", func := "bailey/baileylaw06.CaveatCodes", spec := "caveatCodes", inPlace := ["internal/bytealg.abigen_runtime_cmpstring"], recurses := true, apart := false }
def CaveatCodesSaid : Prop := caveatCodesRow.holds Try.pinned (OpenSpec.ofChange caveatCodesSpec)

/-- ITS FALSE NEIGHBOUR: 'it returns false'. Refute it at one input. -/
def caveatCodesWrong : ChangeSpec := { name := "caveatCodes", fn := fun _ => fun
  | [d1, d2, d3] => { results := [.lit (.bool false)], args := [d1, d2, d3] }
  | _ => none }
def CaveatCodesWrongFalsely : Prop := caveatCodesRow.holds Try.pinned (OpenSpec.ofChange caveatCodesWrong)

/-- 'baileylaw06.CaveatBack': WHATEVER THE INPUT: true; the input reads as it did. -/
def caveatBackSpec : ChangeSpec := { name := "caveatBack", fn := fun _ => fun
  | [d1, d2] => { results := [.lit (.bool true)], args := [d1, d2] }
  | _ => none }
def caveatBackRow : OpenClaim := { program := "ytlmcdgbjbamdnaa", sum := "f6b6e6e6bfe580a601bdd954f63bd1852825da70d18ebd808c85c437368b1626", func := "bailey/baileylaw06.CaveatBack", spec := "caveatBack", inPlace := ["internal/bytealg.abigen_runtime_cmpstring"], apart := false }
def CaveatBackSaid : Prop := caveatBackRow.holds Try.pinned (OpenSpec.ofChange caveatBackSpec)

/-- ITS FALSE NEIGHBOUR: 'it returns false'. Refute it at one input. -/
def caveatBackWrong : ChangeSpec := { name := "caveatBack", fn := fun _ => fun
  | [d1, d2] => { results := [.lit (.bool false)], args := [d1, d2] }
  | _ => none }
def CaveatBackWrongFalsely : Prop := caveatBackRow.holds Try.pinned (OpenSpec.ofChange caveatBackWrong)

/-- 'baileylaw23.CommandDeeds': WHATEVER THE INPUT: true; the input reads as it did. -/
def commandDeedsSpec : ChangeSpec := { name := "commandDeeds", fn := fun _ => fun
  | [d1, d2, d3] => { results := [.lit (.bool true)], args := [d1, d2, d3] }
  | _ => none }
def commandDeedsRow : OpenClaim := { program := "ytlmcdgbjbamdnaa", sum := "f6b6e6e6bfe580a601bdd954f63bd1852825da70d18ebd808c85c437368b1626", func := "bailey/baileylaw23.CommandDeeds", spec := "commandDeeds", unfollowed := true, recurses := true, apart := false }
def CommandDeedsSaid : Prop := commandDeedsRow.holds Try.pinned (OpenSpec.ofChange commandDeedsSpec)

/-- ITS FALSE NEIGHBOUR: 'it returns false'. Refute it at one input. -/
def commandDeedsWrong : ChangeSpec := { name := "commandDeeds", fn := fun _ => fun
  | [d1, d2, d3] => { results := [.lit (.bool false)], args := [d1, d2, d3] }
  | _ => none }
def CommandDeedsWrongFalsely : Prop := commandDeedsRow.holds Try.pinned (OpenSpec.ofChange commandDeedsWrong)

/-- 'baileylaw22.ChainCodes': WHATEVER THE INPUT: true; the input reads as it did. -/
def chainCodesSpec : ChangeSpec := { name := "chainCodes", fn := fun _ => fun
  | [d1, d2] => { results := [.lit (.bool true)], args := [d1, d2] }
  | _ => none }
def chainCodesRow : OpenClaim := { program := "ytlmcdgbjbamdnaa", sum := "f6b6e6e6bfe580a601bdd954f63bd1852825da70d18ebd808c85c437368b1626", func := "bailey/baileylaw22.ChainCodes", spec := "chainCodes", recurses := true, apart := false }
def ChainCodesSaid : Prop := chainCodesRow.holds Try.pinned (OpenSpec.ofChange chainCodesSpec)

/-- ITS FALSE NEIGHBOUR: 'it returns false'. Refute it at one input. -/
def chainCodesWrong : ChangeSpec := { name := "chainCodes", fn := fun _ => fun
  | [d1, d2] => { results := [.lit (.bool false)], args := [d1, d2] }
  | _ => none }
def ChainCodesWrongFalsely : Prop := chainCodesRow.holds Try.pinned (OpenSpec.ofChange chainCodesWrong)

/-- 'baileylaw07.KeyringKeys': WHATEVER THE INPUT: true; the input reads as it did. -/
def keyringKeysSpec : ChangeSpec := { name := "keyringKeys", fn := fun _ => fun
  | [d1, d2] => { results := [.lit (.bool true)], args := [d1, d2] }
  | _ => none }
def keyringKeysRow : OpenClaim := { program := "ytlmcdgbjbamdnaa", sum := "f6b6e6e6bfe580a601bdd954f63bd1852825da70d18ebd808c85c437368b1626", func := "bailey/baileylaw07.KeyringKeys", spec := "keyringKeys", inPlace := ["sync/atomic.LoadInt64", "sync/atomic.AddInt64", "sync/atomic.LoadUint32", "(*internal/sync.Mutex).Lock", "internal/race.Disable", "sync/atomic.CompareAndSwapInt32", "internal/race.Enable", "internal/race.Acquire", "(*internal/sync.Mutex).lockSlow", "internal/sync.runtime_canSpin", "internal/sync.runtime_doSpin", "internal/sync.throw", "internal/sync.runtime_nanotime", "internal/sync.runtime_SemacquireMutex", "sync/atomic.AddInt32", "(*internal/sync.Mutex).Unlock", "internal/race.ReleaseMerge", "(*internal/sync.Mutex).unlockSlow", "internal/sync.fatal", "internal/sync.runtime_Semrelease", "sync/atomic.StoreUint32"], unfollowed := true, recurses := true, apart := false }
def KeyringKeysSaid : Prop := keyringKeysRow.holds Try.pinned (OpenSpec.ofChange keyringKeysSpec)

/-- ITS FALSE NEIGHBOUR: 'it returns false'. Refute it at one input. -/
def keyringKeysWrong : ChangeSpec := { name := "keyringKeys", fn := fun _ => fun
  | [d1, d2] => { results := [.lit (.bool false)], args := [d1, d2] }
  | _ => none }
def KeyringKeysWrongFalsely : Prop := keyringKeysRow.holds Try.pinned (OpenSpec.ofChange keyringKeysWrong)

/-- 'baileylaw07.KeyringCounts': WHATEVER THE INPUT: true; the input reads as it did. -/
def keyringCountsSpec : ChangeSpec := { name := "keyringCounts", fn := fun _ => fun
  | [d] => { results := [.lit (.bool true)], args := [d] }
  | _ => none }
def keyringCountsRow : OpenClaim := { program := "ytlmcdgbjbamdnaa", sum := "f6b6e6e6bfe580a601bdd954f63bd1852825da70d18ebd808c85c437368b1626", func := "bailey/baileylaw07.KeyringCounts", spec := "keyringCounts", inPlace := ["sync/atomic.AddInt64", "sync/atomic.LoadUint32", "(*internal/sync.Mutex).Lock", "internal/race.Disable", "sync/atomic.CompareAndSwapInt32", "internal/race.Enable", "internal/race.Acquire", "(*internal/sync.Mutex).lockSlow", "internal/sync.runtime_canSpin", "internal/sync.runtime_doSpin", "internal/sync.throw", "internal/sync.runtime_nanotime", "internal/sync.runtime_SemacquireMutex", "sync/atomic.AddInt32", "(*internal/sync.Mutex).Unlock", "internal/race.ReleaseMerge", "(*internal/sync.Mutex).unlockSlow", "internal/sync.fatal", "internal/sync.runtime_Semrelease", "sync/atomic.StoreUint32", "sync/atomic.LoadInt64"], unfollowed := true, recurses := true, apart := false }
def KeyringCountsSaid : Prop := keyringCountsRow.holds Try.pinned (OpenSpec.ofChange keyringCountsSpec)

/-- ITS FALSE NEIGHBOUR: 'it returns false'. Refute it at one input. -/
def keyringCountsWrong : ChangeSpec := { name := "keyringCounts", fn := fun _ => fun
  | [d] => { results := [.lit (.bool false)], args := [d] }
  | _ => none }
def KeyringCountsWrongFalsely : Prop := keyringCountsRow.holds Try.pinned (OpenSpec.ofChange keyringCountsWrong)

/-- 'baileylaw07.KeyringNobody': WHATEVER THE INPUT: true; the input reads as it did. -/
def keyringNobodySpec : ChangeSpec := { name := "keyringNobody", fn := fun _ => fun
  | [d] => { results := [.lit (.bool true)], args := [d] }
  | _ => none }
def keyringNobodyRow : OpenClaim := { program := "ytlmcdgbjbamdnaa", sum := "f6b6e6e6bfe580a601bdd954f63bd1852825da70d18ebd808c85c437368b1626", func := "bailey/baileylaw07.KeyringNobody", spec := "keyringNobody", inPlace := ["sync/atomic.AddInt64", "sync/atomic.LoadUint32", "(*internal/sync.Mutex).Lock", "internal/race.Disable", "sync/atomic.CompareAndSwapInt32", "internal/race.Enable", "internal/race.Acquire", "(*internal/sync.Mutex).lockSlow", "internal/sync.runtime_canSpin", "internal/sync.runtime_doSpin", "internal/sync.throw", "internal/sync.runtime_nanotime", "internal/sync.runtime_SemacquireMutex", "sync/atomic.AddInt32", "(*internal/sync.Mutex).Unlock", "internal/race.ReleaseMerge", "(*internal/sync.Mutex).unlockSlow", "internal/sync.fatal", "internal/sync.runtime_Semrelease", "sync/atomic.StoreUint32", "sync/atomic.LoadInt64"], unfollowed := true, recurses := true, apart := false }
def KeyringNobodySaid : Prop := keyringNobodyRow.holds Try.pinned (OpenSpec.ofChange keyringNobodySpec)

/-- ITS FALSE NEIGHBOUR: 'it returns false'. Refute it at one input. -/
def keyringNobodyWrong : ChangeSpec := { name := "keyringNobody", fn := fun _ => fun
  | [d] => { results := [.lit (.bool false)], args := [d] }
  | _ => none }
def KeyringNobodyWrongFalsely : Prop := keyringNobodyRow.holds Try.pinned (OpenSpec.ofChange keyringNobodyWrong)

/-- 'baileylaw07.KeyringTexts': WHATEVER THE INPUT: true; the input reads as it did. -/
def keyringTextsSpec : ChangeSpec := { name := "keyringTexts", fn := fun _ => fun
  | [d1, d2, d3, d4, d5, d6] => { results := [.lit (.bool true)], args := [d1, d2, d3, d4, d5, d6] }
  | _ => none }
def keyringTextsRow : OpenClaim := { program := "ytlmcdgbjbamdnaa", sum := "f6b6e6e6bfe580a601bdd954f63bd1852825da70d18ebd808c85c437368b1626", func := "bailey/baileylaw07.KeyringTexts", spec := "keyringTexts", inPlace := ["sync/atomic.LoadInt64", "sync/atomic.AddInt64", "sync/atomic.LoadUint32", "(*internal/sync.Mutex).Lock", "internal/race.Disable", "sync/atomic.CompareAndSwapInt32", "internal/race.Enable", "internal/race.Acquire", "(*internal/sync.Mutex).lockSlow", "internal/sync.runtime_canSpin", "internal/sync.runtime_doSpin", "internal/sync.throw", "internal/sync.runtime_nanotime", "internal/sync.runtime_SemacquireMutex", "sync/atomic.AddInt32", "(*internal/sync.Mutex).Unlock", "internal/race.ReleaseMerge", "(*internal/sync.Mutex).unlockSlow", "internal/sync.fatal", "internal/sync.runtime_Semrelease", "sync/atomic.StoreUint32"], unfollowed := true, recurses := true, apart := false }
def KeyringTextsSaid : Prop := keyringTextsRow.holds Try.pinned (OpenSpec.ofChange keyringTextsSpec)

/-- ITS FALSE NEIGHBOUR: 'it returns false'. Refute it at one input. -/
def keyringTextsWrong : ChangeSpec := { name := "keyringTexts", fn := fun _ => fun
  | [d1, d2, d3, d4, d5, d6] => { results := [.lit (.bool false)], args := [d1, d2, d3, d4, d5, d6] }
  | _ => none }
def KeyringTextsWrongFalsely : Prop := keyringTextsRow.holds Try.pinned (OpenSpec.ofChange keyringTextsWrong)

/-- 'baileylaw08.TokenHolds': WHATEVER THE INPUT: true; the input reads as it did. -/
def tokenHoldsSpec : ChangeSpec := { name := "tokenHolds", fn := fun _ => fun
  | [d1, d2, d3] => { results := [.lit (.bool true)], args := [d1, d2, d3] }
  | _ => none }
def tokenHoldsRow : OpenClaim := { program := "ytlmcdgbjbamdnaa", sum := "f6b6e6e6bfe580a601bdd954f63bd1852825da70d18ebd808c85c437368b1626", func := "bailey/baileylaw08.TokenHolds", spec := "tokenHolds", unfollowed := true, recurses := true, apart := false }
def TokenHoldsSaid : Prop := tokenHoldsRow.holds Try.pinned (OpenSpec.ofChange tokenHoldsSpec)

/-- ITS FALSE NEIGHBOUR: 'it returns false'. Refute it at one input. -/
def tokenHoldsWrong : ChangeSpec := { name := "tokenHolds", fn := fun _ => fun
  | [d1, d2, d3] => { results := [.lit (.bool false)], args := [d1, d2, d3] }
  | _ => none }
def TokenHoldsWrongFalsely : Prop := tokenHoldsRow.holds Try.pinned (OpenSpec.ofChange tokenHoldsWrong)

/-- 'baileylaw08.TokenTag': WHATEVER THE INPUT: true; the input reads as it did. -/
def tokenTagSpec : ChangeSpec := { name := "tokenTag", fn := fun _ => fun
  | [d1, d2, d3] => { results := [.lit (.bool true)], args := [d1, d2, d3] }
  | _ => none }
def tokenTagRow : OpenClaim := { program := "ytlmcdgbjbamdnaa", sum := "f6b6e6e6bfe580a601bdd954f63bd1852825da70d18ebd808c85c437368b1626", func := "bailey/baileylaw08.TokenTag", spec := "tokenTag", unfollowed := true, recurses := true, apart := false }
def TokenTagSaid : Prop := tokenTagRow.holds Try.pinned (OpenSpec.ofChange tokenTagSpec)

/-- ITS FALSE NEIGHBOUR: 'it returns false'. Refute it at one input. -/
def tokenTagWrong : ChangeSpec := { name := "tokenTag", fn := fun _ => fun
  | [d1, d2, d3] => { results := [.lit (.bool false)], args := [d1, d2, d3] }
  | _ => none }
def TokenTagWrongFalsely : Prop := tokenTagRow.holds Try.pinned (OpenSpec.ofChange tokenTagWrong)

/-- 'baileylaw08.TokenMints': WHATEVER THE INPUT: true; the input reads as it did. -/
def tokenMintsSpec : ChangeSpec := { name := "tokenMints", fn := fun _ => fun
  | [d1, d2, d3, d4] => { results := [.lit (.bool true)], args := [d1, d2, d3, d4] }
  | _ => none }
def tokenMintsRow : OpenClaim := { program := "ytlmcdgbjbamdnaa", sum := "f6b6e6e6bfe580a601bdd954f63bd1852825da70d18ebd808c85c437368b1626", func := "bailey/baileylaw08.TokenMints", spec := "tokenMints", unfollowed := true, recurses := true, apart := false }
def TokenMintsSaid : Prop := tokenMintsRow.holds Try.pinned (OpenSpec.ofChange tokenMintsSpec)

/-- ITS FALSE NEIGHBOUR: 'it returns false'. Refute it at one input. -/
def tokenMintsWrong : ChangeSpec := { name := "tokenMints", fn := fun _ => fun
  | [d1, d2, d3, d4] => { results := [.lit (.bool false)], args := [d1, d2, d3, d4] }
  | _ => none }
def TokenMintsWrongFalsely : Prop := tokenMintsRow.holds Try.pinned (OpenSpec.ofChange tokenMintsWrong)

/-- 'baileylaw08.TokenOpens': WHATEVER THE INPUT: true; the input reads as it did. -/
def tokenOpensSpec : ChangeSpec := { name := "tokenOpens", fn := fun _ => fun
  | [d1, d2, d3] => { results := [.lit (.bool true)], args := [d1, d2, d3] }
  | _ => none }
def tokenOpensRow : OpenClaim := { program := "ytlmcdgbjbamdnaa", sum := "f6b6e6e6bfe580a601bdd954f63bd1852825da70d18ebd808c85c437368b1626", func := "bailey/baileylaw08.TokenOpens", spec := "tokenOpens", unfollowed := true, recurses := true, apart := false }
def TokenOpensSaid : Prop := tokenOpensRow.holds Try.pinned (OpenSpec.ofChange tokenOpensSpec)

/-- ITS FALSE NEIGHBOUR: 'it returns false'. Refute it at one input. -/
def tokenOpensWrong : ChangeSpec := { name := "tokenOpens", fn := fun _ => fun
  | [d1, d2, d3] => { results := [.lit (.bool false)], args := [d1, d2, d3] }
  | _ => none }
def TokenOpensWrongFalsely : Prop := tokenOpensRow.holds Try.pinned (OpenSpec.ofChange tokenOpensWrong)

/-- 'baileylaw23.CommandCodes': WHATEVER THE INPUT: true; the input reads as it did. -/
def commandCodesSpec : ChangeSpec := { name := "commandCodes", fn := fun _ => fun
  | [d1, d2, d3] => { results := [.lit (.bool true)], args := [d1, d2, d3] }
  | _ => none }
def commandCodesRow : OpenClaim := { program := "ytlmcdgbjbamdnaa", sum := "f6b6e6e6bfe580a601bdd954f63bd1852825da70d18ebd808c85c437368b1626", func := "bailey/baileylaw23.CommandCodes", spec := "commandCodes", unfollowed := true, recurses := true, apart := false }
def CommandCodesSaid : Prop := commandCodesRow.holds Try.pinned (OpenSpec.ofChange commandCodesSpec)

/-- ITS FALSE NEIGHBOUR: 'it returns false'. Refute it at one input. -/
def commandCodesWrong : ChangeSpec := { name := "commandCodes", fn := fun _ => fun
  | [d1, d2, d3] => { results := [.lit (.bool false)], args := [d1, d2, d3] }
  | _ => none }
def CommandCodesWrongFalsely : Prop := commandCodesRow.holds Try.pinned (OpenSpec.ofChange commandCodesWrong)

/-- 'baileylaw23.CommandBack': WHATEVER THE INPUT: true; the input reads as it did. -/
def commandBackSpec : ChangeSpec := { name := "commandBack", fn := fun _ => fun
  | [d1, d2] => { results := [.lit (.bool true)], args := [d1, d2] }
  | _ => none }
def commandBackRow : OpenClaim := { program := "ytlmcdgbjbamdnaa", sum := "f6b6e6e6bfe580a601bdd954f63bd1852825da70d18ebd808c85c437368b1626", func := "bailey/baileylaw23.CommandBack", spec := "commandBack", unfollowed := true, recurses := true, apart := false }
def CommandBackSaid : Prop := commandBackRow.holds Try.pinned (OpenSpec.ofChange commandBackSpec)

/-- ITS FALSE NEIGHBOUR: 'it returns false'. Refute it at one input. -/
def commandBackWrong : ChangeSpec := { name := "commandBack", fn := fun _ => fun
  | [d1, d2] => { results := [.lit (.bool false)], args := [d1, d2] }
  | _ => none }
def CommandBackWrongFalsely : Prop := commandBackRow.holds Try.pinned (OpenSpec.ofChange commandBackWrong)

/-- 'baileylaw08.TokenCodes': WHATEVER THE INPUT: true; the input reads as it did. -/
def tokenCodesSpec : ChangeSpec := { name := "tokenCodes", fn := fun _ => fun
  | [d1, d2] => { results := [.lit (.bool true)], args := [d1, d2] }
  | _ => none }
def tokenCodesRow : OpenClaim := { program := "ytlmcdgbjbamdnaa", sum := "f6b6e6e6bfe580a601bdd954f63bd1852825da70d18ebd808c85c437368b1626", func := "bailey/baileylaw08.TokenCodes", spec := "tokenCodes", unfollowed := true, recurses := true, apart := false }
def TokenCodesSaid : Prop := tokenCodesRow.holds Try.pinned (OpenSpec.ofChange tokenCodesSpec)

/-- ITS FALSE NEIGHBOUR: 'it returns false'. Refute it at one input. -/
def tokenCodesWrong : ChangeSpec := { name := "tokenCodes", fn := fun _ => fun
  | [d1, d2] => { results := [.lit (.bool false)], args := [d1, d2] }
  | _ => none }
def TokenCodesWrongFalsely : Prop := tokenCodesRow.holds Try.pinned (OpenSpec.ofChange tokenCodesWrong)

/- THE SECOND FORM. 'bulk': how many values and letters a reading holds, each counted each time it is reached (what is shared counts as often as it is met; a slice's spare places count too). A statement '..UptoSaid' is the law's where the arguments, and the package variables that the reading takes, are together of bulk at most 1048576: NARROWER than '..Said'. Prove '..Said' where nothing that the law and all that it calls make is longer than what came in: it says more and counts as full. Else prove '..UptoSaid'. A law counts once. -/
mutual
def uptoBulk {H : Type} : DataW H → Nat
  | .lit (.string bytes) => bytes.length + 1
  | .lit _ => 1
  | .nil => 1
  | .ptr d => uptoBulk d + 1
  | .slice elems spare => uptoBulkAll elems + uptoBulkAll spare + 1
  | .agg parts => uptoBulkAll parts + 1
  | .iface _ d => uptoBulk d + 1
  | .map entries => uptoBulkEntries entries + 1
  | .held _ => 1
def uptoBulkAll {H : Type} : List (DataW H) → Nat
  | [] => 0
  | d :: r => uptoBulk d + uptoBulkAll r
def uptoBulkEntries {H : Type} : List (Lit × DataW H) → Nat
  | [] => 0
  | x :: r => uptoBulkEntry x + uptoBulkEntries r
def uptoBulkEntry {H : Type} : Lit × DataW H → Nat
  | (.string bytes, d) => bytes.length + uptoBulk d + 1
  | (_, d) => uptoBulk d + 1
 end
def uptoSmall : (H : Type) → List (DataW H) → Bool := fun _ ds => decide (uptoBulkAll ds ≤ 1048576)
def OpenSpec.upto (s : _root_.Go.ChangeSpec) : _root_.Go.OpenSpec := { _root_.Go.OpenSpec.ofChange s with cond := some uptoSmall }

/-- 'baileylaw06.CaveatChecks', WHERE WHAT IT READS IS OF BULK AT MOST 1048576: true; the input reads as it did. -/
def caveatChecksUptoRow : OpenClaim := { program := "ytlmcdgbjbamdnaa", sum := "f6b6e6e6bfe580a601bdd954f63bd1852825da70d18ebd808c85c437368b1626", func := "bailey/baileylaw06.CaveatChecks", spec := "caveatChecks", inPlace := ["internal/bytealg.abigen_runtime_cmpstring"], apart := false, narrowed := true }
def CaveatChecksUptoSaid : Prop := caveatChecksUptoRow.holds Try.pinned (OpenSpec.upto caveatChecksSpec)

/-- 'baileylaw06.CaveatSame', WHERE WHAT IT READS IS OF BULK AT MOST 1048576: true; the input reads as it did. -/
def caveatSameUptoRow : OpenClaim := { program := "ytlmcdgbjbamdnaa", sum := "f6b6e6e6bfe580a601bdd954f63bd1852825da70d18ebd808c85c437368b1626", func := "bailey/baileylaw06.CaveatSame", spec := "caveatSame", inPlace := ["internal/bytealg.abigen_runtime_cmpstring"], apart := false, narrowed := true }
def CaveatSameUptoSaid : Prop := caveatSameUptoRow.holds Try.pinned (OpenSpec.upto caveatSameSpec)

/-- 'baileylaw06.CaveatHolds', WHERE WHAT IT READS IS OF BULK AT MOST 1048576: true; the input reads as it did. -/
def caveatHoldsUptoRow : OpenClaim := { program := "ytlmcdgbjbamdnaa", sum := "f6b6e6e6bfe580a601bdd954f63bd1852825da70d18ebd808c85c437368b1626", func := "bailey/baileylaw06.CaveatHolds", spec := "caveatHolds", inPlace := ["internal/bytealg.abigen_runtime_cmpstring"], unfollowed := true, recurses := true, apart := false, narrowed := true }
def CaveatHoldsUptoSaid : Prop := caveatHoldsUptoRow.holds Try.pinned (OpenSpec.upto caveatHoldsSpec)

/-- 'baileylaw06.CaveatWeaker', WHERE WHAT IT READS IS OF BULK AT MOST 1048576: true; the input reads as it did. -/
def caveatWeakerUptoRow : OpenClaim := { program := "ytlmcdgbjbamdnaa", sum := "f6b6e6e6bfe580a601bdd954f63bd1852825da70d18ebd808c85c437368b1626", func := "bailey/baileylaw06.CaveatWeaker", spec := "caveatWeaker", inPlace := ["internal/bytealg.abigen_runtime_cmpstring"], unfollowed := true, recurses := true, apart := false, narrowed := true }
def CaveatWeakerUptoSaid : Prop := caveatWeakerUptoRow.holds Try.pinned (OpenSpec.upto caveatWeakerSpec)

/-- 'baileylaw22.ChainLinks', WHERE WHAT IT READS IS OF BULK AT MOST 1048576: true; the input reads as it did. -/
def chainLinksUptoRow : OpenClaim := { program := "ytlmcdgbjbamdnaa", sum := "f6b6e6e6bfe580a601bdd954f63bd1852825da70d18ebd808c85c437368b1626", func := "bailey/baileylaw22.ChainLinks", spec := "chainLinks", recurses := true, apart := false, narrowed := true }
def ChainLinksUptoSaid : Prop := chainLinksUptoRow.holds Try.pinned (OpenSpec.upto chainLinksSpec)

/-- 'baileylaw22.ChainParts', WHERE WHAT IT READS IS OF BULK AT MOST 1048576: true; the input reads as it did. -/
def chainPartsUptoRow : OpenClaim := { program := "ytlmcdgbjbamdnaa", sum := "f6b6e6e6bfe580a601bdd954f63bd1852825da70d18ebd808c85c437368b1626", func := "bailey/baileylaw22.ChainParts", spec := "chainParts", apart := false, narrowed := true }
def ChainPartsUptoSaid : Prop := chainPartsUptoRow.holds Try.pinned (OpenSpec.upto chainPartsSpec)

/-- 'baileylaw23.CommandOf', WHERE WHAT IT READS IS OF BULK AT MOST 1048576: true; the input reads as it did. -/
def commandOfUptoRow : OpenClaim := { program := "ytlmcdgbjbamdnaa", sum := "f6b6e6e6bfe580a601bdd954f63bd1852825da70d18ebd808c85c437368b1626", func := "bailey/baileylaw23.CommandOf", spec := "commandOf", unfollowed := true, recurses := true, apart := false, narrowed := true }
def CommandOfUptoSaid : Prop := commandOfUptoRow.holds Try.pinned (OpenSpec.upto commandOfSpec)

/-- 'baileylaw06.CaveatCodes', WHERE WHAT IT READS IS OF BULK AT MOST 1048576: true; the input reads as it did. -/
def caveatCodesUptoRow : OpenClaim := { program := "ytlmcdgbjbamdnaa", sum := "f6b6e6e6bfe580a601bdd954f63bd1852825da70d18ebd808c85c437368b1626", func := "bailey/baileylaw06.CaveatCodes", spec := "caveatCodes", inPlace := ["internal/bytealg.abigen_runtime_cmpstring"], recurses := true, apart := false, narrowed := true }
def CaveatCodesUptoSaid : Prop := caveatCodesUptoRow.holds Try.pinned (OpenSpec.upto caveatCodesSpec)

/-- 'baileylaw06.CaveatBack', WHERE WHAT IT READS IS OF BULK AT MOST 1048576: true; the input reads as it did. -/
def caveatBackUptoRow : OpenClaim := { program := "ytlmcdgbjbamdnaa", sum := "f6b6e6e6bfe580a601bdd954f63bd1852825da70d18ebd808c85c437368b1626", func := "bailey/baileylaw06.CaveatBack", spec := "caveatBack", inPlace := ["internal/bytealg.abigen_runtime_cmpstring"], apart := false, narrowed := true }
def CaveatBackUptoSaid : Prop := caveatBackUptoRow.holds Try.pinned (OpenSpec.upto caveatBackSpec)

/-- 'baileylaw23.CommandDeeds', WHERE WHAT IT READS IS OF BULK AT MOST 1048576: true; the input reads as it did. -/
def commandDeedsUptoRow : OpenClaim := { program := "ytlmcdgbjbamdnaa", sum := "f6b6e6e6bfe580a601bdd954f63bd1852825da70d18ebd808c85c437368b1626", func := "bailey/baileylaw23.CommandDeeds", spec := "commandDeeds", unfollowed := true, recurses := true, apart := false, narrowed := true }
def CommandDeedsUptoSaid : Prop := commandDeedsUptoRow.holds Try.pinned (OpenSpec.upto commandDeedsSpec)

/-- 'baileylaw22.ChainCodes', WHERE WHAT IT READS IS OF BULK AT MOST 1048576: true; the input reads as it did. -/
def chainCodesUptoRow : OpenClaim := { program := "ytlmcdgbjbamdnaa", sum := "f6b6e6e6bfe580a601bdd954f63bd1852825da70d18ebd808c85c437368b1626", func := "bailey/baileylaw22.ChainCodes", spec := "chainCodes", recurses := true, apart := false, narrowed := true }
def ChainCodesUptoSaid : Prop := chainCodesUptoRow.holds Try.pinned (OpenSpec.upto chainCodesSpec)

/-- 'baileylaw07.KeyringKeys', WHERE WHAT IT READS IS OF BULK AT MOST 1048576: true; the input reads as it did. -/
def keyringKeysUptoRow : OpenClaim := { program := "ytlmcdgbjbamdnaa", sum := "f6b6e6e6bfe580a601bdd954f63bd1852825da70d18ebd808c85c437368b1626", func := "bailey/baileylaw07.KeyringKeys", spec := "keyringKeys", inPlace := ["sync/atomic.LoadInt64", "sync/atomic.AddInt64", "sync/atomic.LoadUint32", "(*internal/sync.Mutex).Lock", "internal/race.Disable", "sync/atomic.CompareAndSwapInt32", "internal/race.Enable", "internal/race.Acquire", "(*internal/sync.Mutex).lockSlow", "internal/sync.runtime_canSpin", "internal/sync.runtime_doSpin", "internal/sync.throw", "internal/sync.runtime_nanotime", "internal/sync.runtime_SemacquireMutex", "sync/atomic.AddInt32", "(*internal/sync.Mutex).Unlock", "internal/race.ReleaseMerge", "(*internal/sync.Mutex).unlockSlow", "internal/sync.fatal", "internal/sync.runtime_Semrelease", "sync/atomic.StoreUint32"], unfollowed := true, recurses := true, apart := false, narrowed := true }
def KeyringKeysUptoSaid : Prop := keyringKeysUptoRow.holds Try.pinned (OpenSpec.upto keyringKeysSpec)

/-- 'baileylaw07.KeyringCounts', WHERE WHAT IT READS IS OF BULK AT MOST 1048576: true; the input reads as it did. -/
def keyringCountsUptoRow : OpenClaim := { program := "ytlmcdgbjbamdnaa", sum := "f6b6e6e6bfe580a601bdd954f63bd1852825da70d18ebd808c85c437368b1626", func := "bailey/baileylaw07.KeyringCounts", spec := "keyringCounts", inPlace := ["sync/atomic.AddInt64", "sync/atomic.LoadUint32", "(*internal/sync.Mutex).Lock", "internal/race.Disable", "sync/atomic.CompareAndSwapInt32", "internal/race.Enable", "internal/race.Acquire", "(*internal/sync.Mutex).lockSlow", "internal/sync.runtime_canSpin", "internal/sync.runtime_doSpin", "internal/sync.throw", "internal/sync.runtime_nanotime", "internal/sync.runtime_SemacquireMutex", "sync/atomic.AddInt32", "(*internal/sync.Mutex).Unlock", "internal/race.ReleaseMerge", "(*internal/sync.Mutex).unlockSlow", "internal/sync.fatal", "internal/sync.runtime_Semrelease", "sync/atomic.StoreUint32", "sync/atomic.LoadInt64"], unfollowed := true, recurses := true, apart := false, narrowed := true }
def KeyringCountsUptoSaid : Prop := keyringCountsUptoRow.holds Try.pinned (OpenSpec.upto keyringCountsSpec)

/-- 'baileylaw07.KeyringNobody', WHERE WHAT IT READS IS OF BULK AT MOST 1048576: true; the input reads as it did. -/
def keyringNobodyUptoRow : OpenClaim := { program := "ytlmcdgbjbamdnaa", sum := "f6b6e6e6bfe580a601bdd954f63bd1852825da70d18ebd808c85c437368b1626", func := "bailey/baileylaw07.KeyringNobody", spec := "keyringNobody", inPlace := ["sync/atomic.AddInt64", "sync/atomic.LoadUint32", "(*internal/sync.Mutex).Lock", "internal/race.Disable", "sync/atomic.CompareAndSwapInt32", "internal/race.Enable", "internal/race.Acquire", "(*internal/sync.Mutex).lockSlow", "internal/sync.runtime_canSpin", "internal/sync.runtime_doSpin", "internal/sync.throw", "internal/sync.runtime_nanotime", "internal/sync.runtime_SemacquireMutex", "sync/atomic.AddInt32", "(*internal/sync.Mutex).Unlock", "internal/race.ReleaseMerge", "(*internal/sync.Mutex).unlockSlow", "internal/sync.fatal", "internal/sync.runtime_Semrelease", "sync/atomic.StoreUint32", "sync/atomic.LoadInt64"], unfollowed := true, recurses := true, apart := false, narrowed := true }
def KeyringNobodyUptoSaid : Prop := keyringNobodyUptoRow.holds Try.pinned (OpenSpec.upto keyringNobodySpec)

/-- 'baileylaw07.KeyringTexts', WHERE WHAT IT READS IS OF BULK AT MOST 1048576: true; the input reads as it did. -/
def keyringTextsUptoRow : OpenClaim := { program := "ytlmcdgbjbamdnaa", sum := "f6b6e6e6bfe580a601bdd954f63bd1852825da70d18ebd808c85c437368b1626", func := "bailey/baileylaw07.KeyringTexts", spec := "keyringTexts", inPlace := ["sync/atomic.LoadInt64", "sync/atomic.AddInt64", "sync/atomic.LoadUint32", "(*internal/sync.Mutex).Lock", "internal/race.Disable", "sync/atomic.CompareAndSwapInt32", "internal/race.Enable", "internal/race.Acquire", "(*internal/sync.Mutex).lockSlow", "internal/sync.runtime_canSpin", "internal/sync.runtime_doSpin", "internal/sync.throw", "internal/sync.runtime_nanotime", "internal/sync.runtime_SemacquireMutex", "sync/atomic.AddInt32", "(*internal/sync.Mutex).Unlock", "internal/race.ReleaseMerge", "(*internal/sync.Mutex).unlockSlow", "internal/sync.fatal", "internal/sync.runtime_Semrelease", "sync/atomic.StoreUint32"], unfollowed := true, recurses := true, apart := false, narrowed := true }
def KeyringTextsUptoSaid : Prop := keyringTextsUptoRow.holds Try.pinned (OpenSpec.upto keyringTextsSpec)

/-- 'baileylaw08.TokenHolds', WHERE WHAT IT READS IS OF BULK AT MOST 1048576: true; the input reads as it did. -/
def tokenHoldsUptoRow : OpenClaim := { program := "ytlmcdgbjbamdnaa", sum := "f6b6e6e6bfe580a601bdd954f63bd1852825da70d18ebd808c85c437368b1626", func := "bailey/baileylaw08.TokenHolds", spec := "tokenHolds", unfollowed := true, recurses := true, apart := false, narrowed := true }
def TokenHoldsUptoSaid : Prop := tokenHoldsUptoRow.holds Try.pinned (OpenSpec.upto tokenHoldsSpec)

/-- 'baileylaw08.TokenTag', WHERE WHAT IT READS IS OF BULK AT MOST 1048576: true; the input reads as it did. -/
def tokenTagUptoRow : OpenClaim := { program := "ytlmcdgbjbamdnaa", sum := "f6b6e6e6bfe580a601bdd954f63bd1852825da70d18ebd808c85c437368b1626", func := "bailey/baileylaw08.TokenTag", spec := "tokenTag", unfollowed := true, recurses := true, apart := false, narrowed := true }
def TokenTagUptoSaid : Prop := tokenTagUptoRow.holds Try.pinned (OpenSpec.upto tokenTagSpec)

/-- 'baileylaw08.TokenMints', WHERE WHAT IT READS IS OF BULK AT MOST 1048576: true; the input reads as it did. -/
def tokenMintsUptoRow : OpenClaim := { program := "ytlmcdgbjbamdnaa", sum := "f6b6e6e6bfe580a601bdd954f63bd1852825da70d18ebd808c85c437368b1626", func := "bailey/baileylaw08.TokenMints", spec := "tokenMints", unfollowed := true, recurses := true, apart := false, narrowed := true }
def TokenMintsUptoSaid : Prop := tokenMintsUptoRow.holds Try.pinned (OpenSpec.upto tokenMintsSpec)

/-- 'baileylaw08.TokenOpens', WHERE WHAT IT READS IS OF BULK AT MOST 1048576: true; the input reads as it did. -/
def tokenOpensUptoRow : OpenClaim := { program := "ytlmcdgbjbamdnaa", sum := "f6b6e6e6bfe580a601bdd954f63bd1852825da70d18ebd808c85c437368b1626", func := "bailey/baileylaw08.TokenOpens", spec := "tokenOpens", unfollowed := true, recurses := true, apart := false, narrowed := true }
def TokenOpensUptoSaid : Prop := tokenOpensUptoRow.holds Try.pinned (OpenSpec.upto tokenOpensSpec)

/-- 'baileylaw23.CommandCodes', WHERE WHAT IT READS IS OF BULK AT MOST 1048576: true; the input reads as it did. -/
def commandCodesUptoRow : OpenClaim := { program := "ytlmcdgbjbamdnaa", sum := "f6b6e6e6bfe580a601bdd954f63bd1852825da70d18ebd808c85c437368b1626", func := "bailey/baileylaw23.CommandCodes", spec := "commandCodes", unfollowed := true, recurses := true, apart := false, narrowed := true }
def CommandCodesUptoSaid : Prop := commandCodesUptoRow.holds Try.pinned (OpenSpec.upto commandCodesSpec)

/-- 'baileylaw23.CommandBack', WHERE WHAT IT READS IS OF BULK AT MOST 1048576: true; the input reads as it did. -/
def commandBackUptoRow : OpenClaim := { program := "ytlmcdgbjbamdnaa", sum := "f6b6e6e6bfe580a601bdd954f63bd1852825da70d18ebd808c85c437368b1626", func := "bailey/baileylaw23.CommandBack", spec := "commandBack", unfollowed := true, recurses := true, apart := false, narrowed := true }
def CommandBackUptoSaid : Prop := commandBackUptoRow.holds Try.pinned (OpenSpec.upto commandBackSpec)

/-- 'baileylaw08.TokenCodes', WHERE WHAT IT READS IS OF BULK AT MOST 1048576: true; the input reads as it did. -/
def tokenCodesUptoRow : OpenClaim := { program := "ytlmcdgbjbamdnaa", sum := "f6b6e6e6bfe580a601bdd954f63bd1852825da70d18ebd808c85c437368b1626", func := "bailey/baileylaw08.TokenCodes", spec := "tokenCodes", unfollowed := true, recurses := true, apart := false, narrowed := true }
def TokenCodesUptoSaid : Prop := tokenCodesUptoRow.holds Try.pinned (OpenSpec.upto tokenCodesSpec)

end Rows
end Go.Proofs.Ytlmcdgbjbamdnaa

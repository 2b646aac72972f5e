/-
  What lives of layer 17 comes to: some of its calls, run. Printed by a program (dev/chunk.sh). No condition.
-/
import Derived.Test.YtcbpdjikdohegaaQwa2
namespace Go.Proofs.Ytcbpdjikdohegaa
open Go.RowKit
/-- linkboy/wheel.Wheel.tick -/
theorem qwr1370 : memoRuns Try.prog qwt1370 100000 60 64 qwa1370 qwb1370 qwv1370 qwc1370 = true := by kernel_rfl
/-- linkboy/wheel.Wheel.tick -/
theorem qwr1376 : memoRuns Try.prog qwt1376 100000 60 64 qwa1376 qwb1376 qwv1376 qwc1376 = true := by kernel_rfl
/-- linkboy/wheel.Wheel.tick -/
theorem qwr1382 : memoRuns Try.prog qwt1382 100000 60 64 qwa1382 qwb1382 qwv1382 qwc1382 = true := by kernel_rfl
/-- linkboy/wheel.Wheel.tick -/
theorem qwr1388 : memoRuns Try.prog qwt1388 100000 60 64 qwa1388 qwb1388 qwv1388 qwc1388 = true := by kernel_rfl
/-- linkboy/wheel.Wheel.tick -/
theorem qwr1394 : memoRuns Try.prog qwt1394 100000 60 64 qwa1394 qwb1394 qwv1394 qwc1394 = true := by kernel_rfl
/-- linkboy/wheel.Wheel.tick -/
theorem qwr1400 : memoRuns Try.prog qwt1400 100000 60 64 qwa1400 qwb1400 qwv1400 qwc1400 = true := by kernel_rfl
/-- linkboy/wheel.Wheel.tick -/
theorem qwr1406 : memoRuns Try.prog qwt1406 100000 60 64 qwa1406 qwb1406 qwv1406 qwc1406 = true := by kernel_rfl
/-- linkboy/wheel.Wheel.tick -/
theorem qwr1412 : memoRuns Try.prog qwt1412 100000 60 64 qwa1412 qwb1412 qwv1412 qwc1412 = true := by kernel_rfl
/-- linkboy/wheel.Wheel.tick -/
theorem qwr1418 : memoRuns Try.prog qwt1418 100000 60 64 qwa1418 qwb1418 qwv1418 qwc1418 = true := by kernel_rfl
/-- linkboy/wheel.Wheel.tick -/
theorem qwr1424 : memoRuns Try.prog qwt1424 100000 60 64 qwa1424 qwb1424 qwv1424 qwc1424 = true := by kernel_rfl
/-- linkboy/wheel.Wheel.tick -/
theorem qwr1430 : memoRuns Try.prog qwt1430 100000 60 64 qwa1430 qwb1430 qwv1430 qwc1430 = true := by kernel_rfl
/-- linkboy/wheel.Wheel.tick -/
theorem qwr1436 : memoRuns Try.prog qwt1436 100000 60 64 qwa1436 qwb1436 qwv1436 qwc1436 = true := by kernel_rfl
/-- linkboy/wheel.Wheel.tick -/
theorem qwr1442 : memoRuns Try.prog qwt1442 100000 60 64 qwa1442 qwb1442 qwv1442 qwc1442 = true := by kernel_rfl
/-- linkboy/wheel.Wheel.tick -/
theorem qwr1448 : memoRuns Try.prog qwt1448 100000 60 64 qwa1448 qwb1448 qwv1448 qwc1448 = true := by kernel_rfl
/-- linkboy/wheel.Wheel.tick -/
theorem qwr1454 : memoRuns Try.prog qwt1454 100000 60 64 qwa1454 qwb1454 qwv1454 qwc1454 = true := by kernel_rfl
/-- linkboy/wheel.Wheel.tick -/
theorem qwr1461 : memoRuns Try.prog qwt1461 100000 60 64 qwa1461 qwb1461 qwv1461 qwc1461 = true := by kernel_rfl
/-- linkboy/wheel.Wheel.tick -/
theorem qwr1467 : memoRuns Try.prog qwt1467 100000 60 64 qwa1467 qwb1467 qwv1467 qwc1467 = true := by kernel_rfl
/-- linkboy/wheel.Wheel.tick -/
theorem qwr1473 : memoRuns Try.prog qwt1473 100000 60 64 qwa1473 qwb1473 qwv1473 qwc1473 = true := by kernel_rfl
/-- linkboy/wheel.Wheel.tick -/
theorem qwr1479 : memoRuns Try.prog qwt1479 100000 60 64 qwa1479 qwb1479 qwv1479 qwc1479 = true := by kernel_rfl
/-- linkboy/wheel.Wheel.tick -/
theorem qwr1485 : memoRuns Try.prog qwt1485 100000 60 64 qwa1485 qwb1485 qwv1485 qwc1485 = true := by kernel_rfl
/-- linkboy/wheel.Wheel.tick -/
theorem qwr1491 : memoRuns Try.prog qwt1491 100000 60 64 qwa1491 qwb1491 qwv1491 qwc1491 = true := by kernel_rfl
/-- linkboy/wheel.Wheel.tick -/
theorem qwr1497 : memoRuns Try.prog qwt1497 100000 60 64 qwa1497 qwb1497 qwv1497 qwc1497 = true := by kernel_rfl
/-- linkboy/wheel.Wheel.tick -/
theorem qwr1503 : memoRuns Try.prog qwt1503 100000 60 64 qwa1503 qwb1503 qwv1503 qwc1503 = true := by kernel_rfl
/-- linkboy/wheel.Wheel.tick -/
theorem qwr1509 : memoRuns Try.prog qwt1509 100000 60 64 qwa1509 qwb1509 qwv1509 qwc1509 = true := by kernel_rfl
/-- linkboy/wheel.Wheel.tick -/
theorem qwr1515 : memoRuns Try.prog qwt1515 100000 60 64 qwa1515 qwb1515 qwv1515 qwc1515 = true := by kernel_rfl
/-- linkboy/wheel.Wheel.tick -/
theorem qwr1521 : memoRuns Try.prog qwt1521 100000 60 64 qwa1521 qwb1521 qwv1521 qwc1521 = true := by kernel_rfl
/-- linkboy/wheel.Wheel.tick -/
theorem qwr1527 : memoRuns Try.prog qwt1527 100000 60 64 qwa1527 qwb1527 qwv1527 qwc1527 = true := by kernel_rfl
/-- linkboy/wheel.Wheel.tick -/
theorem qwr1533 : memoRuns Try.prog qwt1533 100000 60 64 qwa1533 qwb1533 qwv1533 qwc1533 = true := by kernel_rfl
/-- linkboy/wheel.Wheel.tick -/
theorem qwr1539 : memoRuns Try.prog qwt1539 100000 60 64 qwa1539 qwb1539 qwv1539 qwc1539 = true := by kernel_rfl
/-- linkboy/wheel.Wheel.tick -/
theorem qwr1545 : memoRuns Try.prog qwt1545 100000 60 64 qwa1545 qwb1545 qwv1545 qwc1545 = true := by kernel_rfl
/-- linkboy/wheel.Wheel.tick -/
theorem qwr1551 : memoRuns Try.prog qwt1551 100000 60 64 qwa1551 qwb1551 qwv1551 qwc1551 = true := by kernel_rfl
/-- linkboy/wheel.Wheel.tick -/
theorem qwr1561 : memoRuns Try.prog qwt1561 100000 60 64 qwa1561 qwb1561 qwv1561 qwc1561 = true := by kernel_rfl
/-- linkboy/wheel.Wheel.tick -/
theorem qwr1567 : memoRuns Try.prog qwt1567 100000 60 64 qwa1567 qwb1567 qwv1567 qwc1567 = true := by kernel_rfl
/-- linkboy/wheel.Wheel.tick -/
theorem qwr1573 : memoRuns Try.prog qwt1573 100000 60 64 qwa1573 qwb1573 qwv1573 qwc1573 = true := by kernel_rfl
/-- linkboy/wheel.Wheel.tick -/
theorem qwr1579 : memoRuns Try.prog qwt1579 100000 60 64 qwa1579 qwb1579 qwv1579 qwc1579 = true := by kernel_rfl
/-- linkboy/wheel.Wheel.tick -/
theorem qwr1585 : memoRuns Try.prog qwt1585 100000 60 64 qwa1585 qwb1585 qwv1585 qwc1585 = true := by kernel_rfl
/-- linkboy/wheel.Wheel.tick -/
theorem qwr1591 : memoRuns Try.prog qwt1591 100000 60 64 qwa1591 qwb1591 qwv1591 qwc1591 = true := by kernel_rfl
/-- linkboy/wheel.Wheel.tick -/
theorem qwr1597 : memoRuns Try.prog qwt1597 100000 60 64 qwa1597 qwb1597 qwv1597 qwc1597 = true := by kernel_rfl
/-- linkboy/wheel.Wheel.tick -/
theorem qwr1603 : memoRuns Try.prog qwt1603 100000 60 64 qwa1603 qwb1603 qwv1603 qwc1603 = true := by kernel_rfl
/-- linkboy/wheel.Wheel.tick -/
theorem qwr1609 : memoRuns Try.prog qwt1609 100000 60 64 qwa1609 qwb1609 qwv1609 qwc1609 = true := by kernel_rfl
/-- linkboy/wheel.Wheel.tick -/
theorem qwr1615 : memoRuns Try.prog qwt1615 100000 60 64 qwa1615 qwb1615 qwv1615 qwc1615 = true := by kernel_rfl
/-- linkboy/wheel.Wheel.tick -/
theorem qwr1621 : memoRuns Try.prog qwt1621 100000 60 64 qwa1621 qwb1621 qwv1621 qwc1621 = true := by kernel_rfl
/-- linkboy/wheel.Wheel.tick -/
theorem qwr1627 : memoRuns Try.prog qwt1627 100000 60 64 qwa1627 qwb1627 qwv1627 qwc1627 = true := by kernel_rfl
/-- linkboy/wheel.Wheel.tick -/
theorem qwr1633 : memoRuns Try.prog qwt1633 100000 60 64 qwa1633 qwb1633 qwv1633 qwc1633 = true := by kernel_rfl
/-- linkboy/wheel.Wheel.tick -/
theorem qwr1639 : memoRuns Try.prog qwt1639 100000 60 64 qwa1639 qwb1639 qwv1639 qwc1639 = true := by kernel_rfl
/-- linkboy/wheel.Wheel.tick -/
theorem qwr1645 : memoRuns Try.prog qwt1645 100000 60 64 qwa1645 qwb1645 qwv1645 qwc1645 = true := by kernel_rfl
/-- linkboy/wheel.Wheel.tick -/
theorem qwr1651 : memoRuns Try.prog qwt1651 100000 60 64 qwa1651 qwb1651 qwv1651 qwc1651 = true := by kernel_rfl
/-- linkboy/wheel.Wheel.tick -/
theorem qwr1658 : memoRuns Try.prog qwt1658 100000 60 64 qwa1658 qwb1658 qwv1658 qwc1658 = true := by kernel_rfl
/-- linkboy/wheel.Wheel.tick -/
theorem qwr1664 : memoRuns Try.prog qwt1664 100000 60 64 qwa1664 qwb1664 qwv1664 qwc1664 = true := by kernel_rfl
/-- linkboy/wheel.Wheel.tick -/
theorem qwr1670 : memoRuns Try.prog qwt1670 100000 60 64 qwa1670 qwb1670 qwv1670 qwc1670 = true := by kernel_rfl
/-- linkboy/wheel.Wheel.tick -/
theorem qwr1676 : memoRuns Try.prog qwt1676 100000 60 64 qwa1676 qwb1676 qwv1676 qwc1676 = true := by kernel_rfl
/-- linkboy/wheel.Wheel.tick -/
theorem qwr1682 : memoRuns Try.prog qwt1682 100000 60 64 qwa1682 qwb1682 qwv1682 qwc1682 = true := by kernel_rfl
/-- linkboy/wheel.Wheel.tick -/
theorem qwr1688 : memoRuns Try.prog qwt1688 100000 60 64 qwa1688 qwb1688 qwv1688 qwc1688 = true := by kernel_rfl
/-- linkboy/wheel.Wheel.tick -/
theorem qwr1694 : memoRuns Try.prog qwt1694 100000 60 64 qwa1694 qwb1694 qwv1694 qwc1694 = true := by kernel_rfl
/-- linkboy/wheel.Wheel.tick -/
theorem qwr1700 : memoRuns Try.prog qwt1700 100000 60 64 qwa1700 qwb1700 qwv1700 qwc1700 = true := by kernel_rfl
/-- linkboy/wheel.Wheel.tick -/
theorem qwr1706 : memoRuns Try.prog qwt1706 100000 60 64 qwa1706 qwb1706 qwv1706 qwc1706 = true := by kernel_rfl
/-- linkboy/wheel.Wheel.tick -/
theorem qwr1712 : memoRuns Try.prog qwt1712 100000 60 64 qwa1712 qwb1712 qwv1712 qwc1712 = true := by kernel_rfl
/-- linkboy/wheel.Wheel.tick -/
theorem qwr1718 : memoRuns Try.prog qwt1718 100000 60 64 qwa1718 qwb1718 qwv1718 qwc1718 = true := by kernel_rfl
/-- linkboy/wheel.Wheel.tick -/
theorem qwr1724 : memoRuns Try.prog qwt1724 100000 60 64 qwa1724 qwb1724 qwv1724 qwc1724 = true := by kernel_rfl
/-- linkboy/wheel.Wheel.tick -/
theorem qwr1730 : memoRuns Try.prog qwt1730 100000 60 64 qwa1730 qwb1730 qwv1730 qwc1730 = true := by kernel_rfl
/-- linkboy/wheel.Wheel.tick -/
theorem qwr1736 : memoRuns Try.prog qwt1736 100000 60 64 qwa1736 qwb1736 qwv1736 qwc1736 = true := by kernel_rfl
/-- linkboy/wheel.Wheel.tick -/
theorem qwr1742 : memoRuns Try.prog qwt1742 100000 60 64 qwa1742 qwb1742 qwv1742 qwc1742 = true := by kernel_rfl
/-- linkboy/wheel.Wheel.tick -/
theorem qwr1748 : memoRuns Try.prog qwt1748 100000 60 64 qwa1748 qwb1748 qwv1748 qwc1748 = true := by kernel_rfl
/-- linkboy/wheel.Wheel.tick -/
theorem qwr1757 : memoRuns Try.prog qwt1757 100000 60 64 qwa1757 qwb1757 qwv1757 qwc1757 = true := by kernel_rfl
/-- linkboy/wheel.Wheel.tick -/
theorem qwr1763 : memoRuns Try.prog qwt1763 100000 60 64 qwa1763 qwb1763 qwv1763 qwc1763 = true := by kernel_rfl
/-- linkboy/wheel.Wheel.tick -/
theorem qwr1769 : memoRuns Try.prog qwt1769 100000 60 64 qwa1769 qwb1769 qwv1769 qwc1769 = true := by kernel_rfl
/-- linkboy/wheel.Wheel.tick -/
theorem qwr1775 : memoRuns Try.prog qwt1775 100000 60 64 qwa1775 qwb1775 qwv1775 qwc1775 = true := by kernel_rfl
/-- linkboy/wheel.Wheel.tick -/
theorem qwr1781 : memoRuns Try.prog qwt1781 100000 60 64 qwa1781 qwb1781 qwv1781 qwc1781 = true := by kernel_rfl
/-- linkboy/wheel.Wheel.tick -/
theorem qwr1787 : memoRuns Try.prog qwt1787 100000 60 64 qwa1787 qwb1787 qwv1787 qwc1787 = true := by kernel_rfl
/-- linkboy/wheel.Wheel.tick -/
theorem qwr1793 : memoRuns Try.prog qwt1793 100000 60 64 qwa1793 qwb1793 qwv1793 qwc1793 = true := by kernel_rfl
/-- linkboy/wheel.Wheel.tick -/
theorem qwr1799 : memoRuns Try.prog qwt1799 100000 60 64 qwa1799 qwb1799 qwv1799 qwc1799 = true := by kernel_rfl
/-- linkboy/wheel.Wheel.tick -/
theorem qwr1805 : memoRuns Try.prog qwt1805 100000 60 64 qwa1805 qwb1805 qwv1805 qwc1805 = true := by kernel_rfl
/-- linkboy/wheel.Wheel.tick -/
theorem qwr1811 : memoRuns Try.prog qwt1811 100000 60 64 qwa1811 qwb1811 qwv1811 qwc1811 = true := by kernel_rfl
/-- linkboy/wheel.Wheel.tick -/
theorem qwr1817 : memoRuns Try.prog qwt1817 100000 60 64 qwa1817 qwb1817 qwv1817 qwc1817 = true := by kernel_rfl
/-- linkboy/wheel.Wheel.Turn -/
theorem qwr5 : memoRuns Try.prog qwt5 100000 60 30 qwa5 qwb5 qwv5 qwc5 = true := by kernel_rfl
end Go.Proofs.Ytcbpdjikdohegaa
